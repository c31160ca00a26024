/- on of the program: whether a point lies on a side of a polygon. -/
import Derived.Test.YtklmlodapinflaaPolyD
namespace Go.Proofs.Ytklmlodapinflaa
open Go.RowKit Go.Shelf
attribute [local go_sem] Oper.semAt_some

/-- A side of small corners. -/
def SdSm (x : C8 × C8) : Prop := C8.lim 100 x.1 ∧ C8.lim 100 x.2
theorem plOk_small {xs : List C8} (h : plOk xs = true) : ∀ k, k < xs.length → SdSm (sideOf xs k) := by
  simp only [plOk, Bool.and_eq_true] at h
  have h1 := inB_iff.1 h.1
  have h2 := pvA_iff.1 h.2
  exact fun k hk => ⟨okM_lim (h2 k hk), okM_lim (h2 _ (Nat.mod_lt _ (by omega)))⟩
theorem drew2_self (w : World) : w.drew.drew = more w #[] (w.drawn + 1 + 1) := by cases w; simp [more, World.drew]
theorem PtAt.new (w : World) (x : C8) (T : TypeId) : PtAt (w.alloc (.cells (row x) T)) w.heap.size 0 x := fun j v hv => by
  rw [cell_of_row _ w.heap.size (0 + j) (row x) T (0, 0) (heap_alloc_new w _), Nat.zero_add, ← Array.getElem?_toList]
  exact hv
theorem run_load_pt (w : World) (op : Oper) (a : Act) {t : Tmp} (ho : op.op = .load 25 (.tmp t)) (b o : Nat) (c : C8) (hc : PtAt w b o c) (hx : a.eval (.tmp t) = .pointer (some ⟨b, o, none⟩)) : (execOp a.eval op).run Try.prog w = .ok (.value (cv c)) w := by
  unfold execOp
  simp only [ho, hx, Instr.loadAt, Instr.sureAddr, Sem.run_bind, Sem.run_pure, Result.andThen_ok, run_loadVar_mid w b o 25 (row c).toList _ hc Try.underlying25 rfl infoC8, Array.toArray_toList]
set_option maxRecDepth 100000 in
set_option maxHeartbeats 4000000 in
theorem on_in (b cap : Nat) (xs : List C8) (c : C8) (hcl : C8.lim 100 c) (hSd : ∀ k, k < xs.length → SdSm (sideOf xs k)) (hlen : xs.length ≤ 48) (w : World) (hb : b < w.heap.size) (hc : ∀ i, i < xs.length → PtAt w b (i * 8) (xs.getD i C8.zero)) :
    CallsIn Fence.wide 2 Try.prog 84 #[.slice (some ⟨b, 0, none⟩) xs.length cap, cv c] w fun e W' => e = .returned (.bool (onA xs c)) ∧ Below w.heap.size w W' := by
  have HC := Lib.hid hc
  have HS := Lib.hid hSd
  have HCL := Lib.hid hcl
  clear hc hSd hcl
  refine callsIn_of_wp_marks Try.func84 rfl trivial ?_ rfl
  simp only [Try.ntmps84, List.size_toArray, List.length_cons, List.length_nil, Nat.reduceAdd, Nat.reduceSub, Array.replicate_succ, Array.replicate_zero, List.push_toArray, List.append_toArray, List.nil_append, List.cons_append]
  gi_wp2_with (first
    | (refine ⟨trivial, ?_⟩; gi_at_call 81; refine (callsIn_wide.2 (sides_any _ _ _ _)).mono ?_; rintro e w' ⟨rfl, rfl⟩))
  obtain ⟨WX, hW0⟩ : ∃ WX, (((w.alloc (.cells (row c) 25)).alloc (.cells #[.bool false] 4)).alloc (.cells #[.slice (some ⟨b, 0, none⟩) xs.length cap] 49)) = WX := ⟨_, rfl⟩
  have hsz : WX.heap.size = w.heap.size + 3 := by rw [← hW0]; simp
  have hcl : WX.cell? ⟨w.heap.size + 2, 0, none⟩ = some (.slice (some ⟨b, 0, none⟩) xs.length cap) := by rw [← hW0]; simp [go_sem]
  have hB0 : Below w.heap.size w WX := by rw [← hW0]; repeat' (first | (with_reducible exact Below.refl _ _) | (with_reducible assumption) | (with_reducible refine Below.alloc ?_ ?_ _) | (with_reducible refine below_more ?_ ?_ _ _) | (with_reducible refine below_rd ?_ ?_ _ _) | (with_reducible refine Below.drew ?_) | (with_reducible refine Below.setCell ?_ ?_ _) | go_size)
  have hR0 : WX.cell? ⟨w.heap.size + 1, 0, none⟩ = some (.bool false) ∧ WX.frozen? ⟨w.heap.size + 1, 0, none⟩ = false := by rw [← hW0]; simp [go_sem]
  have hC0 : PtAt WX w.heap.size 0 c := by
    rw [← hW0]
    refine ptAt_alloc (ptAt_alloc (PtAt.new w c 25) (by simp) _) (by simp; omega) _
  have e2 : w.heap.size + 1 + 1 = w.heap.size + 2 := by omega
  rw [e2] at *
  rw [hW0]
  clear hW0 e2
  refine wpIn_rangeFunc_ownH rfl (by omega) (gf := 116) (lb := #[.pointer (some ⟨w.heap.size + 2, 0, none⟩)]) rfl trivial (enters_of Try.func116 (by kernel_rfl) rfl)
    (sides_stops SdSm (w.heap.size + 2) (w.heap.size + 2) b cap xs (by omega) (by omega) HS.out WX (by omega) (by omega) hcl (fun i hi => ptAt_below (HC.out i hi) hB0 hb))
    (fun h h' => KpS.trans h h') (fun W l o o' hl ho _ _ => KpS.putObj W o' (by omega) (by omega) (Array.getElem?_eq_some_iff.1 ho).1) (Below.refl _ _) (fun _ => rfl)
    (fun pre W => (∀ x ∈ pre, onB c x.1 = false) ∧ KpS (w.heap.size + 2) (w.heap.size + 2) WX W)
    (fun cc pre W => (cc = .ret ∧ (∃ x ∈ pre, onB c x.1 = true) ∧ W.cell? ⟨w.heap.size + 1, 0, none⟩ = some (.bool true)) ∧ Below w.heap.size w W)
    (OwnFrom.and (fun _ _ _ _ hs _ _ => hs) (ownFrom_KpS (by omega) (by omega) (by omega) (by omega)))
    (fun cc => OwnFrom.and (Own.from (fun s A B row hs hg hr => ⟨hs.1, hs.2.1, cell_kept hs.2.2 hg hr⟩) _) (ownFrom_below (Nat.le_refl _) (by omega)))
    ⟨fun _ h => (by cases h), KpS.refl _ _ _⟩
    (fun x a' W => ∃ Bx, w.heap.size + 2 < Bx ∧ SideAt W Bx x.1 ∧ a' = { tmps := #[.slice (some ⟨b, 0, none⟩) xs.length cap, cv c, undef, .pointer (some ⟨w.heap.size, 0, none⟩), .pointer (some ⟨w.heap.size + 1, 0, none⟩), .pointer (some ⟨Bx, 0, none⟩), undef, undef, .slice (some ⟨b, 0, none⟩) xs.length cap, .func (.func 116) #[] #[.pointer (some ⟨w.heap.size + 2, 0, none⟩)], .agg (row2 x.1.1 x.1.2), undef, undef, undef, undef, undef, undef, undef, undef, undef, undef, undef, undef, undef, undef, undef, undef, undef, undef, undef, undef, undef, undef, undef, undef], defers := [] })
    (fun x a' _ X Y row hs hg hr => by obtain ⟨Bx, h1, h2, h3⟩ := hs; exact ⟨Bx, h1, h2.own hg hr, h3⟩)
    ?assign ?body ?done ?stop
  case assign =>
    rintro l pre x W K ⟨hS, hK⟩ hKK
    have hsW := hK.1.size
    dsimp only [sideV]
    gi_wp2
    exact hKK _ _ ((KeepsOthers.alloc _ _).from _) ((KpS.refl _ _ W).alloc (by omega) (by omega) _) ⟨hS, hK.alloc (by omega) (by omega) _⟩ ⟨W.heap.size, by omega, SideAt.new W x.1 91, rfl⟩
  case body =>
    rintro l pre x a' W hl ⟨r, hr⟩ ⟨hS, hK⟩ ⟨Bx, hBx, hX, rfl⟩ hlt
    have hsW := hK.1.size
    have hBxW := hX.lt
    have HF := Lib.hid hX.fst
    have HG := Lib.hid hX.snd
    have HX := Lib.hid x.2
    have hBW : Below w.heap.size w W := hB0.trans (hK.1.mono (by omega))
    have hlw : w.heap.size < W.heap.size := by omega
    have hlw1 : w.heap.size + 1 < W.heap.size := by omega
    have r1 : W.cell? ⟨w.heap.size + 1, 0, none⟩ = some (.bool false) := (hK.1.cell (p := ⟨w.heap.size + 1, 0, none⟩) (by show w.heap.size + 1 < _; omega)).trans hR0.1
    have r2 : W.frozen? ⟨w.heap.size + 1, 0, none⟩ = false := (World.frozen?_of_block (w := WX) (by obtain ⟨_, _, _, _, h5⟩ := hK.1; exact h5 (w.heap.size + 1) (by omega))).trans hR0.2
    have HCW := Lib.hid (ptAt_below hC0 hK.1 (by omega))
    have HL := Lib.hid (show C8.lim 1000 x.1.1 ∧ C8.lim 1000 x.1.2 ∧ C8.lim 1000 c ∧ C8.lim 1000 (C8.sub x.1.2 x.1.1) ∧ C8.lim 1000 (C8.sub c x.1.1) ∧ C8.lim 1000 (C8.sub c x.1.2) from
      ⟨C8.lim_mono HX.out.1 (by omega), C8.lim_mono HX.out.2 (by omega), C8.lim_mono HCL.out (by omega), C8.lim_mono (lim_sub HX.out.2 HX.out.1) (by omega), C8.lim_mono (lim_sub HCL.out HX.out.1) (by omega), C8.lim_mono (lim_sub HCL.out HX.out.2) (by omega)⟩)
    have HO1 := Lib.hid (show okS (crs (C8.sub x.1.2 x.1.1) (C8.sub c x.1.1)).a (crs (C8.sub x.1.2 x.1.1) (C8.sub c x.1.1)).b (crs (C8.sub x.1.2 x.1.1) (C8.sub c x.1.1)).c (crs (C8.sub x.1.2 x.1.1) (C8.sub c x.1.1)).d = true from crs_ok (lim_sub HX.out.2 HX.out.1) (lim_sub HCL.out HX.out.1))
    have HO2 := Lib.hid (show okS (alg (C8.sub c x.1.1) (C8.sub c x.1.2)).a (alg (C8.sub c x.1.1) (C8.sub c x.1.2)).b (alg (C8.sub c x.1.1) (C8.sub c x.1.2)).c (alg (C8.sub c x.1.1) (C8.sub c x.1.2)).d = true from alg_ok (lim_sub HCL.out HX.out.1) (lim_sub HCL.out HX.out.2))
    obtain ⟨s1, hs1⟩ : ∃ s1, sgn (crs (C8.sub x.1.1 c) (C8.sub x.1.2 c)) = s1 := ⟨_, rfl⟩
    obtain ⟨s2, hs2⟩ : ∃ s2, sgn (alg (C8.sub x.1.1 c) (C8.sub x.1.2 c)) = s2 := ⟨_, rfl⟩
    have HS1 := Lib.hid (show sgS (crs (C8.sub x.1.2 x.1.1) (C8.sub c x.1.1)).a (crs (C8.sub x.1.2 x.1.1) (C8.sub c x.1.1)).b (crs (C8.sub x.1.2 x.1.1) (C8.sub c x.1.1)).c (crs (C8.sub x.1.2 x.1.1) (C8.sub c x.1.1)).d = s1 by rw [← hs1, ← crs_side x.1.1 x.1.2 c]; rfl)
    have HS2 := Lib.hid (show sgS (alg (C8.sub c x.1.1) (C8.sub c x.1.2)).a (alg (C8.sub c x.1.1) (C8.sub c x.1.2)).b (alg (C8.sub c x.1.1) (C8.sub c x.1.2)).c (alg (C8.sub c x.1.1) (C8.sub c x.1.2)).d = s2 by rw [← hs2, ← alg_side x.1.1 x.1.2 c]; rfl)
    have HON1 := Lib.hid hs1
    have HON2 := Lib.hid hs2
    clear hs1 hs2
    gi_wp2
    refine region_heldIn (lets_round l 0) (S := fun w' => PtAt w' Bx 0 x.1.1 ∧ PtAt w' Bx 8 x.1.2) (by kernel_rfl) (by kernel_rfl) (by rintro ⟨_, _, h⟩; exact h) ⟨ptAt_drew HF.out, ptAt_drew HG.out⟩ (fun hHeld => ?_)
    refine wpAnyH_take (i := 0) (oi := ⟨some 11, .indexAddr 91 (.tmp 5) (.const (.int .i64 0)), _, _, _, _⟩) (v := ?_) rfl (by kernel_rfl) (by kernel_rfl) (by kernel_rfl) (fun _ _ _ h => h) (Or.inl ⟨by rfl, ?_⟩) (by assumption) ?_
    rotate_left
    focus
      intro w2 hSw
      (try dsimp only at hSw)
      go_simp
      all_goals with_reducible rfl
    try simp only [Act.put, List.setIfInBounds_toArray, List.set_cons_zero, List.set_cons_succ]
    refine wpAnyH_take (i := 1) (oi := ⟨some 12, .load 25 (.tmp 11), _, _, _, _⟩) (v := ?_) rfl (by kernel_rfl) (by kernel_rfl) (by kernel_rfl) (fun _ _ _ h => h) (Or.inl ⟨by rfl, ?_⟩) (by assumption) ?_
    rotate_left
    focus
      intro w2 hSw
      refine run_load_pt w2 _ _ (t := 11) ?_ Bx 0 x.1.1 hSw.1 ?_ <;> rfl
    try simp only [Act.put, List.setIfInBounds_toArray, List.set_cons_zero, List.set_cons_succ]
    refine wpAnyH_take (i := 2) (oi := ⟨some 13, .indexAddr 91 (.tmp 5) (.const (.int .i64 1)), _, _, _, _⟩) (v := ?_) rfl (by kernel_rfl) (by kernel_rfl) (by kernel_rfl) (fun _ _ _ h => h) (Or.inl ⟨by rfl, ?_⟩) (by assumption) ?_
    rotate_left
    focus
      intro w2 hSw
      (try dsimp only at hSw)
      go_simp
      all_goals with_reducible rfl
    try simp only [Act.put, List.setIfInBounds_toArray, List.set_cons_zero, List.set_cons_succ]
    refine wpAnyH_take (i := 3) (oi := ⟨some 14, .load 25 (.tmp 13), _, _, _, _⟩) (v := ?_) rfl (by kernel_rfl) (by kernel_rfl) (by kernel_rfl) (fun _ _ _ h => h) (Or.inl ⟨by rfl, ?_⟩) (by assumption) ?_
    rotate_left
    focus
      intro w2 hSw
      refine run_load_pt w2 _ _ (t := 13) ?_ Bx 8 x.1.2 hSw.2 ?_ <;> rfl
    try simp only [Act.put, List.setIfInBounds_toArray, List.set_cons_zero, List.set_cons_succ]
    refine wpAnyH_ready (rs := [4, 5]) (by kernel_rfl) (by simp) ?_
    refine AllReadyH.cons rfl ?_ (AllReadyH.cons rfl ?_ AllReadyH.nil)
    · intro K hK
      rw [if_pos (by rfl)]
      go_simp
      try go_wp2_with fail
      refine hK.out _ _ ?_ (fun hHeld => ?_)
      · exact ⟨ptAt_alloc hHeld.1 (by first | exact hBxW | (simp; omega)) _, ptAt_alloc hHeld.2 (by first | exact hBxW | (simp; omega)) _⟩
      clear hK K
      try simp only [Act.put, List.setIfInBounds_toArray, List.set_cons_zero, List.set_cons_succ]
      refine wpAnyH_ready (rs := [5]) (by kernel_rfl) (by simp) ?_
      refine AllReadyH.cons rfl ?_ AllReadyH.nil
      intro K hK
      rw [if_pos (by rfl)]
      go_simp
      try go_wp2_with fail
      refine hK.out _ _ ?_ (fun hHeld => ?_)
      · exact ⟨ptAt_alloc hHeld.1 (by first | exact hBxW | (simp; omega)) _, ptAt_alloc hHeld.2 (by first | exact hBxW | (simp; omega)) _⟩
      clear hK K
      try simp only [Act.put, List.setIfInBounds_toArray, List.set_cons_zero, List.set_cons_succ]
      refine wpAnyH_ready (rs := [6]) (by kernel_rfl) (by simp) ?_
      refine AllReadyH.cons rfl ?_ AllReadyH.nil
      intro K hK
      rw [if_pos (by rfl)]
      go_simp
      try go_wp2_with fail
      refine hK.out _ _ ?_ (fun hHeld => ?_)
      · exact ⟨ptAt_alloc (ptAt_alloc (ptAt_drew HF.out) hBxW _) (by simp; omega) _, ptAt_alloc (ptAt_alloc (ptAt_drew HG.out) hBxW _) (by simp; omega) _⟩
      clear hK K
      try simp only [Act.put, List.setIfInBounds_toArray, List.set_cons_zero, List.set_cons_succ]
      refine wpAnyH_ready (rs := [7]) (by kernel_rfl) (by simp) ?_
      refine AllReadyH.cons rfl ?_ AllReadyH.nil
      intro K hK
      rw [if_pos (by rfl)]
      go_simp
      try go_wp2_with fail
      refine hK.out _ _ ?_ (fun hHeld => ?_)
      · exact ⟨ptAt_alloc (ptAt_alloc (ptAt_drew HF.out) hBxW _) (by simp; omega) _, ptAt_alloc (ptAt_alloc (ptAt_drew HG.out) hBxW _) (by simp; omega) _⟩
      clear hK K
      try simp only [Act.put, List.setIfInBounds_toArray, List.set_cons_zero, List.set_cons_succ]
      refine wpAnyH_done (by kernel_rfl) ?_ _
      have HPP := Lib.hid (show PtAt ((W.alloc (.cells (row x.1.1) 25)).alloc (.cells (row x.1.2) 25)) W.heap.size 0 x.1.1 from (ptAt_alloc (PtAt.new W x.1.1 25) (by simp) _))
      have HQQ := Lib.hid (show PtAt ((W.alloc (.cells (row x.1.1) 25)).alloc (.cells (row x.1.2) 25)) (W.heap.size + 1) 0 x.1.2 from (by simpa using PtAt.new (W.alloc (.cells (row x.1.1) 25)) x.1.2 25))
      have HCC := Lib.hid (show PtAt ((W.alloc (.cells (row x.1.1) 25)).alloc (.cells (row x.1.2) 25)) w.heap.size 0 c from ptAt_alloc (ptAt_alloc HCW.out (by omega) _) (by simp; omega) _)
      have lp : W.heap.size < ((W.alloc (.cells (row x.1.1) 25)).alloc (.cells (row x.1.2) 25)).heap.size := by simp; try omega
      have lq : (W.heap.size + 1) < ((W.alloc (.cells (row x.1.1) 25)).alloc (.cells (row x.1.2) 25)).heap.size := by simp; try omega
      have lc : w.heap.size < ((W.alloc (.cells (row x.1.1) 25)).alloc (.cells (row x.1.2) 25)).heap.size := by simp; omega
      clear hHeld
      by_cases h1 : s1 = 0
      · subst h1
        by_cases h2 : s2 ≤ 0
        · have HYES := Lib.hid (show onB c x.1 = true by rw [onB, HON1.out, HON2.out]; simp [h2])
          gi_wp2
          refine region_fixedIn (lets_round l 0) (fun w' => ∃ os' d', w' = more ((W.alloc (.cells (row x.1.1) 25)).alloc (.cells (row x.1.2) 25)) os' d') (by kernel_rfl) 20 [cv x.1.2, cv x.1.1, cv (C8.sub x.1.2 x.1.1), cv c, cv x.1.1, cv (C8.sub c x.1.1), sS (crs (C8.sub x.1.2 x.1.1) (C8.sub c x.1.1)), .int .i64 0, .bool true, .bool true, cv c, cv x.1.1, cv (C8.sub c x.1.1), cv c, cv x.1.2, cv (C8.sub c x.1.2), sS (alg (C8.sub c x.1.1) (C8.sub c x.1.2)), .int .i64 s2, .bool true, .bool true] (by simp) (by kernel_rfl) (by kernel_rfl) ⟨#[], _, (by first | exact drew_self _ | exact drew2_self _)⟩ ?_ ?_
          · simp only [List.take_succ_cons, List.take_zero, puts, Act.put, List.setIfInBounds_toArray, List.set_cons_zero, List.set_cons_succ]
            refine ⟨?_, ?_, ?_, ?_, ?_, ?_, ?_, ?_, ?_, ?_, ?_, ?_, ?_, ?_, ?_, ?_, ?_, ?_, ?_, ?_, trivial⟩
            · refine Or.inl ⟨by kernel_rfl, ?_⟩
              rintro w' ⟨os', d', rfl⟩ K2 hK2
              refine wp_load_mid 25 (.tmp 7) rfl (W.heap.size + 1) 0 rfl (row x.1.2).toList _ (HQQ.out.more lq os' d') Try.underlying25 rfl infoC8 ?_
              simp only [Act.put, Array.toArray_toList, List.setIfInBounds_toArray, List.set_cons_zero, List.set_cons_succ]
              with_reducible exact hK2.out _ ⟨_, _, rfl⟩
            · refine Or.inl ⟨by kernel_rfl, ?_⟩
              rintro w' ⟨os', d', rfl⟩ K2 hK2
              refine wp_load_mid 25 (.tmp 6) rfl W.heap.size 0 rfl (row x.1.1).toList _ (HPP.out.more lp os' d') Try.underlying25 rfl infoC8 ?_
              simp only [Act.put, Array.toArray_toList, List.setIfInBounds_toArray, List.set_cons_zero, List.set_cons_succ]
              with_reducible exact hK2.out _ ⟨_, _, rfl⟩
            · refine Or.inl ⟨by kernel_rfl, ?_⟩
              rintro w' ⟨os', d', rfl⟩ K2 hK2
              go_simp
              go_at_call 87
              refine (cminus_any _ _ HL.out.2.1 HL.out.1 _).mono ?_
              rintro e w' ⟨rfl, hb⟩; obtain ⟨os, d, rfl⟩ := more_of_below hb; clear hb
              go_simp
              with_reducible exact hK2.out _ ⟨_, _, rfl⟩
            · refine Or.inl ⟨by kernel_rfl, ?_⟩
              rintro w' ⟨os', d', rfl⟩ K2 hK2
              refine wp_load_mid 25 (.tmp 3) rfl w.heap.size 0 rfl (row c).toList _ (HCC.out.more lc os' d') Try.underlying25 rfl infoC8 ?_
              simp only [Act.put, Array.toArray_toList, List.setIfInBounds_toArray, List.set_cons_zero, List.set_cons_succ]
              with_reducible exact hK2.out _ ⟨_, _, rfl⟩
            · refine Or.inl ⟨by kernel_rfl, ?_⟩
              rintro w' ⟨os', d', rfl⟩ K2 hK2
              refine wp_load_mid 25 (.tmp 6) rfl W.heap.size 0 rfl (row x.1.1).toList _ (HPP.out.more lp os' d') Try.underlying25 rfl infoC8 ?_
              simp only [Act.put, Array.toArray_toList, List.setIfInBounds_toArray, List.set_cons_zero, List.set_cons_succ]
              with_reducible exact hK2.out _ ⟨_, _, rfl⟩
            · refine Or.inl ⟨by kernel_rfl, ?_⟩
              rintro w' ⟨os', d', rfl⟩ K2 hK2
              go_simp
              go_at_call 87
              refine (cminus_any _ _ HL.out.2.2.1 HL.out.1 _).mono ?_
              rintro e w' ⟨rfl, hb⟩; obtain ⟨os, d, rfl⟩ := more_of_below hb; clear hb
              go_simp
              with_reducible exact hK2.out _ ⟨_, _, rfl⟩
            · refine Or.inl ⟨by kernel_rfl, ?_⟩
              rintro w' ⟨os', d', rfl⟩ K2 hK2
              go_simp
              go_at_call 67
              refine (cross_any _ _ HL.out.2.2.2.1 HL.out.2.2.2.2.1 _).mono ?_
              rintro e w' ⟨rfl, hb⟩; obtain ⟨os, d, rfl⟩ := more_of_below hb; clear hb
              go_simp
              with_reducible exact hK2.out _ ⟨_, _, rfl⟩
            · refine Or.inl ⟨by kernel_rfl, ?_⟩
              rintro w' ⟨os', d', rfl⟩ K2 hK2
              go_simp
              go_at_call 77
              refine (sign_any _ _ _ _ _ HO1.out).mono ?_
              rw [HS1.out]
              rintro e w' ⟨rfl, hb⟩; obtain ⟨os, d, rfl⟩ := more_of_below hb; clear hb
              go_simp
              with_reducible exact hK2.out _ ⟨_, _, rfl⟩
            · refine Or.inl ⟨by kernel_rfl, ?_⟩
              rintro w' ⟨os', d', rfl⟩ K2 hK2
              go_simp
              try go_wp2_with fail
              with_reducible exact hK2.out _ ⟨_, _, rfl⟩
            · refine Or.inl ⟨by kernel_rfl, ?_⟩
              rintro w' ⟨os', d', rfl⟩ K2 hK2
              go_simp
              try go_wp2_with fail
              with_reducible exact hK2.out _ ⟨_, _, rfl⟩
            · refine Or.inl ⟨by kernel_rfl, ?_⟩
              rintro w' ⟨os', d', rfl⟩ K2 hK2
              refine wp_load_mid 25 (.tmp 3) rfl w.heap.size 0 rfl (row c).toList _ (HCC.out.more lc os' d') Try.underlying25 rfl infoC8 ?_
              simp only [Act.put, Array.toArray_toList, List.setIfInBounds_toArray, List.set_cons_zero, List.set_cons_succ]
              with_reducible exact hK2.out _ ⟨_, _, rfl⟩
            · refine Or.inl ⟨by kernel_rfl, ?_⟩
              rintro w' ⟨os', d', rfl⟩ K2 hK2
              refine wp_load_mid 25 (.tmp 6) rfl W.heap.size 0 rfl (row x.1.1).toList _ (HPP.out.more lp os' d') Try.underlying25 rfl infoC8 ?_
              simp only [Act.put, Array.toArray_toList, List.setIfInBounds_toArray, List.set_cons_zero, List.set_cons_succ]
              with_reducible exact hK2.out _ ⟨_, _, rfl⟩
            · refine Or.inl ⟨by kernel_rfl, ?_⟩
              rintro w' ⟨os', d', rfl⟩ K2 hK2
              go_simp
              go_at_call 87
              refine (cminus_any _ _ HL.out.2.2.1 HL.out.1 _).mono ?_
              rintro e w' ⟨rfl, hb⟩; obtain ⟨os, d, rfl⟩ := more_of_below hb; clear hb
              go_simp
              with_reducible exact hK2.out _ ⟨_, _, rfl⟩
            · refine Or.inl ⟨by kernel_rfl, ?_⟩
              rintro w' ⟨os', d', rfl⟩ K2 hK2
              refine wp_load_mid 25 (.tmp 3) rfl w.heap.size 0 rfl (row c).toList _ (HCC.out.more lc os' d') Try.underlying25 rfl infoC8 ?_
              simp only [Act.put, Array.toArray_toList, List.setIfInBounds_toArray, List.set_cons_zero, List.set_cons_succ]
              with_reducible exact hK2.out _ ⟨_, _, rfl⟩
            · refine Or.inl ⟨by kernel_rfl, ?_⟩
              rintro w' ⟨os', d', rfl⟩ K2 hK2
              refine wp_load_mid 25 (.tmp 7) rfl (W.heap.size + 1) 0 rfl (row x.1.2).toList _ (HQQ.out.more lq os' d') Try.underlying25 rfl infoC8 ?_
              simp only [Act.put, Array.toArray_toList, List.setIfInBounds_toArray, List.set_cons_zero, List.set_cons_succ]
              with_reducible exact hK2.out _ ⟨_, _, rfl⟩
            · refine Or.inl ⟨by kernel_rfl, ?_⟩
              rintro w' ⟨os', d', rfl⟩ K2 hK2
              go_simp
              go_at_call 87
              refine (cminus_any _ _ HL.out.2.2.1 HL.out.2.1 _).mono ?_
              rintro e w' ⟨rfl, hb⟩; obtain ⟨os, d, rfl⟩ := more_of_below hb; clear hb
              go_simp
              with_reducible exact hK2.out _ ⟨_, _, rfl⟩
            · refine Or.inl ⟨by kernel_rfl, ?_⟩
              rintro w' ⟨os', d', rfl⟩ K2 hK2
              go_simp
              go_at_call 117
              refine (along_any _ _ HL.out.2.2.2.2.1 HL.out.2.2.2.2.2 _).mono ?_
              rintro e w' ⟨rfl, hb⟩; obtain ⟨os, d, rfl⟩ := more_of_below hb; clear hb
              go_simp
              with_reducible exact hK2.out _ ⟨_, _, rfl⟩
            · refine Or.inl ⟨by kernel_rfl, ?_⟩
              rintro w' ⟨os', d', rfl⟩ K2 hK2
              go_simp
              go_at_call 77
              refine (sign_any _ _ _ _ _ HO2.out).mono ?_
              rw [HS2.out]
              rintro e w' ⟨rfl, hb⟩; obtain ⟨os, d, rfl⟩ := more_of_below hb; clear hb
              go_simp
              with_reducible exact hK2.out _ ⟨_, _, rfl⟩
            · refine Or.inl ⟨by kernel_rfl, ?_⟩
              rintro w' ⟨os', d', rfl⟩ K2 hK2
              go_simp
              try go_wp2_with fail
              with_reducible exact hK2.out _ ⟨_, _, rfl⟩
            · refine Or.inl ⟨by kernel_rfl, ?_⟩
              rintro w' ⟨os', d', rfl⟩ K2 hK2
              go_simp
              try go_wp2_with fail
              with_reducible exact hK2.out _ ⟨_, _, rfl⟩
          · rintro w' ⟨os', d', rfl⟩
            simp only [List.take_succ_cons, List.take_zero, puts, Act.put, List.setIfInBounds_toArray, List.set_cons_zero, List.set_cons_succ, List.drop_succ_cons, List.drop_zero]
            gi_wp2
            refine ⟨((((KeepsOthers.setCell _ _ _).trans (KeepsOthers.alloc _ _)).trans (KeepsOthers.alloc _ _)).trans (keeps_more _ _ _)).from _, ⟨rfl, ⟨x, by simp, HYES.out⟩, ?_⟩, by repeat' (first | (with_reducible exact Below.refl _ _) | (with_reducible assumption) | (with_reducible refine Below.alloc ?_ ?_ _) | (with_reducible refine below_more ?_ ?_ _ _) | (with_reducible refine below_rd ?_ ?_ _ _) | (with_reducible refine Below.drew ?_) | (with_reducible refine Below.setCell ?_ ?_ _) | go_size)⟩
            have hb3 : Below (w.heap.size + 2) (W.setCell ⟨w.heap.size + 1, 0, none⟩ (.bool true)) (more (((W.setCell ⟨w.heap.size + 1, 0, none⟩ (.bool true)).alloc (.cells (row x.1.1) 25)).alloc (.cells (row x.1.2) 25)) os' d') := by repeat' (first | (with_reducible exact Below.refl _ _) | (with_reducible assumption) | (with_reducible refine Below.alloc ?_ ?_ _) | (with_reducible refine below_more ?_ ?_ _ _) | (with_reducible refine below_rd ?_ ?_ _ _) | (with_reducible refine Below.drew ?_) | (with_reducible refine Below.setCell ?_ ?_ _) | go_size)
            exact (hb3.cell (p := ⟨w.heap.size + 1, 0, none⟩) (by show w.heap.size + 1 < _; omega)).trans (World.cell?_setCell_same' _ _ _ (by rw [r1]; rfl))
        · have HNO := Lib.hid (show onB c x.1 = false by rw [onB, HON1.out, HON2.out]; simp [h2])
          have h2b := decide_eq_false h2
          gi_wp2
          refine region_fixedIn (lets_round l 0) (fun w' => ∃ os' d', w' = more ((W.alloc (.cells (row x.1.1) 25)).alloc (.cells (row x.1.2) 25)) os' d') (by kernel_rfl) 20 [cv x.1.2, cv x.1.1, cv (C8.sub x.1.2 x.1.1), cv c, cv x.1.1, cv (C8.sub c x.1.1), sS (crs (C8.sub x.1.2 x.1.1) (C8.sub c x.1.1)), .int .i64 0, .bool true, .bool true, cv c, cv x.1.1, cv (C8.sub c x.1.1), cv c, cv x.1.2, cv (C8.sub c x.1.2), sS (alg (C8.sub c x.1.1) (C8.sub c x.1.2)), .int .i64 s2, .bool false, .bool false] (by simp) (by kernel_rfl) (by kernel_rfl) ⟨#[], _, (by first | exact drew_self _ | exact drew2_self _)⟩ ?_ ?_
          · simp only [List.take_succ_cons, List.take_zero, puts, Act.put, List.setIfInBounds_toArray, List.set_cons_zero, List.set_cons_succ]
            refine ⟨?_, ?_, ?_, ?_, ?_, ?_, ?_, ?_, ?_, ?_, ?_, ?_, ?_, ?_, ?_, ?_, ?_, ?_, ?_, ?_, trivial⟩
            · refine Or.inl ⟨by kernel_rfl, ?_⟩
              rintro w' ⟨os', d', rfl⟩ K2 hK2
              refine wp_load_mid 25 (.tmp 7) rfl (W.heap.size + 1) 0 rfl (row x.1.2).toList _ (HQQ.out.more lq os' d') Try.underlying25 rfl infoC8 ?_
              simp only [Act.put, Array.toArray_toList, List.setIfInBounds_toArray, List.set_cons_zero, List.set_cons_succ]
              with_reducible exact hK2.out _ ⟨_, _, rfl⟩
            · refine Or.inl ⟨by kernel_rfl, ?_⟩
              rintro w' ⟨os', d', rfl⟩ K2 hK2
              refine wp_load_mid 25 (.tmp 6) rfl W.heap.size 0 rfl (row x.1.1).toList _ (HPP.out.more lp os' d') Try.underlying25 rfl infoC8 ?_
              simp only [Act.put, Array.toArray_toList, List.setIfInBounds_toArray, List.set_cons_zero, List.set_cons_succ]
              with_reducible exact hK2.out _ ⟨_, _, rfl⟩
            · refine Or.inl ⟨by kernel_rfl, ?_⟩
              rintro w' ⟨os', d', rfl⟩ K2 hK2
              go_simp
              go_at_call 87
              refine (cminus_any _ _ HL.out.2.1 HL.out.1 _).mono ?_
              rintro e w' ⟨rfl, hb⟩; obtain ⟨os, d, rfl⟩ := more_of_below hb; clear hb
              go_simp
              with_reducible exact hK2.out _ ⟨_, _, rfl⟩
            · refine Or.inl ⟨by kernel_rfl, ?_⟩
              rintro w' ⟨os', d', rfl⟩ K2 hK2
              refine wp_load_mid 25 (.tmp 3) rfl w.heap.size 0 rfl (row c).toList _ (HCC.out.more lc os' d') Try.underlying25 rfl infoC8 ?_
              simp only [Act.put, Array.toArray_toList, List.setIfInBounds_toArray, List.set_cons_zero, List.set_cons_succ]
              with_reducible exact hK2.out _ ⟨_, _, rfl⟩
            · refine Or.inl ⟨by kernel_rfl, ?_⟩
              rintro w' ⟨os', d', rfl⟩ K2 hK2
              refine wp_load_mid 25 (.tmp 6) rfl W.heap.size 0 rfl (row x.1.1).toList _ (HPP.out.more lp os' d') Try.underlying25 rfl infoC8 ?_
              simp only [Act.put, Array.toArray_toList, List.setIfInBounds_toArray, List.set_cons_zero, List.set_cons_succ]
              with_reducible exact hK2.out _ ⟨_, _, rfl⟩
            · refine Or.inl ⟨by kernel_rfl, ?_⟩
              rintro w' ⟨os', d', rfl⟩ K2 hK2
              go_simp
              go_at_call 87
              refine (cminus_any _ _ HL.out.2.2.1 HL.out.1 _).mono ?_
              rintro e w' ⟨rfl, hb⟩; obtain ⟨os, d, rfl⟩ := more_of_below hb; clear hb
              go_simp
              with_reducible exact hK2.out _ ⟨_, _, rfl⟩
            · refine Or.inl ⟨by kernel_rfl, ?_⟩
              rintro w' ⟨os', d', rfl⟩ K2 hK2
              go_simp
              go_at_call 67
              refine (cross_any _ _ HL.out.2.2.2.1 HL.out.2.2.2.2.1 _).mono ?_
              rintro e w' ⟨rfl, hb⟩; obtain ⟨os, d, rfl⟩ := more_of_below hb; clear hb
              go_simp
              with_reducible exact hK2.out _ ⟨_, _, rfl⟩
            · refine Or.inl ⟨by kernel_rfl, ?_⟩
              rintro w' ⟨os', d', rfl⟩ K2 hK2
              go_simp
              go_at_call 77
              refine (sign_any _ _ _ _ _ HO1.out).mono ?_
              rw [HS1.out]
              rintro e w' ⟨rfl, hb⟩; obtain ⟨os, d, rfl⟩ := more_of_below hb; clear hb
              go_simp
              with_reducible exact hK2.out _ ⟨_, _, rfl⟩
            · refine Or.inl ⟨by kernel_rfl, ?_⟩
              rintro w' ⟨os', d', rfl⟩ K2 hK2
              go_simp
              try go_wp2_with fail
              with_reducible exact hK2.out _ ⟨_, _, rfl⟩
            · refine Or.inl ⟨by kernel_rfl, ?_⟩
              rintro w' ⟨os', d', rfl⟩ K2 hK2
              go_simp
              try go_wp2_with fail
              with_reducible exact hK2.out _ ⟨_, _, rfl⟩
            · refine Or.inl ⟨by kernel_rfl, ?_⟩
              rintro w' ⟨os', d', rfl⟩ K2 hK2
              refine wp_load_mid 25 (.tmp 3) rfl w.heap.size 0 rfl (row c).toList _ (HCC.out.more lc os' d') Try.underlying25 rfl infoC8 ?_
              simp only [Act.put, Array.toArray_toList, List.setIfInBounds_toArray, List.set_cons_zero, List.set_cons_succ]
              with_reducible exact hK2.out _ ⟨_, _, rfl⟩
            · refine Or.inl ⟨by kernel_rfl, ?_⟩
              rintro w' ⟨os', d', rfl⟩ K2 hK2
              refine wp_load_mid 25 (.tmp 6) rfl W.heap.size 0 rfl (row x.1.1).toList _ (HPP.out.more lp os' d') Try.underlying25 rfl infoC8 ?_
              simp only [Act.put, Array.toArray_toList, List.setIfInBounds_toArray, List.set_cons_zero, List.set_cons_succ]
              with_reducible exact hK2.out _ ⟨_, _, rfl⟩
            · refine Or.inl ⟨by kernel_rfl, ?_⟩
              rintro w' ⟨os', d', rfl⟩ K2 hK2
              go_simp
              go_at_call 87
              refine (cminus_any _ _ HL.out.2.2.1 HL.out.1 _).mono ?_
              rintro e w' ⟨rfl, hb⟩; obtain ⟨os, d, rfl⟩ := more_of_below hb; clear hb
              go_simp
              with_reducible exact hK2.out _ ⟨_, _, rfl⟩
            · refine Or.inl ⟨by kernel_rfl, ?_⟩
              rintro w' ⟨os', d', rfl⟩ K2 hK2
              refine wp_load_mid 25 (.tmp 3) rfl w.heap.size 0 rfl (row c).toList _ (HCC.out.more lc os' d') Try.underlying25 rfl infoC8 ?_
              simp only [Act.put, Array.toArray_toList, List.setIfInBounds_toArray, List.set_cons_zero, List.set_cons_succ]
              with_reducible exact hK2.out _ ⟨_, _, rfl⟩
            · refine Or.inl ⟨by kernel_rfl, ?_⟩
              rintro w' ⟨os', d', rfl⟩ K2 hK2
              refine wp_load_mid 25 (.tmp 7) rfl (W.heap.size + 1) 0 rfl (row x.1.2).toList _ (HQQ.out.more lq os' d') Try.underlying25 rfl infoC8 ?_
              simp only [Act.put, Array.toArray_toList, List.setIfInBounds_toArray, List.set_cons_zero, List.set_cons_succ]
              with_reducible exact hK2.out _ ⟨_, _, rfl⟩
            · refine Or.inl ⟨by kernel_rfl, ?_⟩
              rintro w' ⟨os', d', rfl⟩ K2 hK2
              go_simp
              go_at_call 87
              refine (cminus_any _ _ HL.out.2.2.1 HL.out.2.1 _).mono ?_
              rintro e w' ⟨rfl, hb⟩; obtain ⟨os, d, rfl⟩ := more_of_below hb; clear hb
              go_simp
              with_reducible exact hK2.out _ ⟨_, _, rfl⟩
            · refine Or.inl ⟨by kernel_rfl, ?_⟩
              rintro w' ⟨os', d', rfl⟩ K2 hK2
              go_simp
              go_at_call 117
              refine (along_any _ _ HL.out.2.2.2.2.1 HL.out.2.2.2.2.2 _).mono ?_
              rintro e w' ⟨rfl, hb⟩; obtain ⟨os, d, rfl⟩ := more_of_below hb; clear hb
              go_simp
              with_reducible exact hK2.out _ ⟨_, _, rfl⟩
            · refine Or.inl ⟨by kernel_rfl, ?_⟩
              rintro w' ⟨os', d', rfl⟩ K2 hK2
              go_simp
              go_at_call 77
              refine (sign_any _ _ _ _ _ HO2.out).mono ?_
              rw [HS2.out]
              rintro e w' ⟨rfl, hb⟩; obtain ⟨os, d, rfl⟩ := more_of_below hb; clear hb
              go_simp
              with_reducible exact hK2.out _ ⟨_, _, rfl⟩
            · refine Or.inl ⟨by kernel_rfl, ?_⟩
              rintro w' ⟨os', d', rfl⟩ K2 hK2
              go_simp
              try go_wp2_with fail
              with_reducible exact hK2.out _ ⟨_, _, rfl⟩
            · refine Or.inl ⟨by kernel_rfl, ?_⟩
              rintro w' ⟨os', d', rfl⟩ K2 hK2
              go_simp
              try go_wp2_with fail
              with_reducible exact hK2.out _ ⟨_, _, rfl⟩
          · rintro w' ⟨os', d', rfl⟩
            simp only [List.take_succ_cons, List.take_zero, puts, Act.put, List.setIfInBounds_toArray, List.set_cons_zero, List.set_cons_succ, List.drop_succ_cons, List.drop_zero]
            gi_wp2
            have hKS : KpS (w.heap.size + 2) (w.heap.size + 2) W (more ((W.alloc (.cells (row x.1.1) 25)).alloc (.cells (row x.1.2) 25)) os' d') := (((KpS.refl (w.heap.size + 2) (w.heap.size + 2) W).alloc (by omega) (by omega) _).alloc (by simp; omega) (by simp; omega) _).more (by simp; omega) (by simp; omega) os' d'
            exact ⟨(((KeepsOthers.alloc _ _).trans (KeepsOthers.alloc _ _)).trans (keeps_more _ _ _)).from _, hKS, fun y hy => (List.mem_append.1 hy).elim (hS y) (fun e => by rw [List.mem_singleton.1 e]; exact HNO.out), hK.trans hKS⟩
      · have HNO := Lib.hid (show onB c x.1 = false by rw [onB, HON1.out]; simp [h1])
        have h1b : (s1 == 0) = false := by rw [beq_eq_false_iff_ne]; exact h1
        gi_wp2
        refine region_fixedIn (lets_round l 0) (fun w' => ∃ os' d', w' = more ((W.alloc (.cells (row x.1.1) 25)).alloc (.cells (row x.1.2) 25)) os' d') (by kernel_rfl) 20 [cv x.1.2, cv x.1.1, cv (C8.sub x.1.2 x.1.1), cv c, cv x.1.1, cv (C8.sub c x.1.1), sS (crs (C8.sub x.1.2 x.1.1) (C8.sub c x.1.1)), .int .i64 s1, .bool false, .bool false, undef, undef, undef, undef, undef, undef, undef, undef, undef, .bool false] (by simp) (by kernel_rfl) (by kernel_rfl) ⟨#[], _, (by first | exact drew_self _ | exact drew2_self _)⟩ ?_ ?_
        · simp only [List.take_succ_cons, List.take_zero, puts, Act.put, List.setIfInBounds_toArray, List.set_cons_zero, List.set_cons_succ]
          refine ⟨?_, ?_, ?_, ?_, ?_, ?_, ?_, ?_, ?_, ?_, ?_, ?_, ?_, ?_, ?_, ?_, ?_, ?_, ?_, ?_, trivial⟩
          · refine Or.inl ⟨by kernel_rfl, ?_⟩
            rintro w' ⟨os', d', rfl⟩ K2 hK2
            refine wp_load_mid 25 (.tmp 7) rfl (W.heap.size + 1) 0 rfl (row x.1.2).toList _ (HQQ.out.more lq os' d') Try.underlying25 rfl infoC8 ?_
            simp only [Act.put, Array.toArray_toList, List.setIfInBounds_toArray, List.set_cons_zero, List.set_cons_succ]
            with_reducible exact hK2.out _ ⟨_, _, rfl⟩
          · refine Or.inl ⟨by kernel_rfl, ?_⟩
            rintro w' ⟨os', d', rfl⟩ K2 hK2
            refine wp_load_mid 25 (.tmp 6) rfl W.heap.size 0 rfl (row x.1.1).toList _ (HPP.out.more lp os' d') Try.underlying25 rfl infoC8 ?_
            simp only [Act.put, Array.toArray_toList, List.setIfInBounds_toArray, List.set_cons_zero, List.set_cons_succ]
            with_reducible exact hK2.out _ ⟨_, _, rfl⟩
          · refine Or.inl ⟨by kernel_rfl, ?_⟩
            rintro w' ⟨os', d', rfl⟩ K2 hK2
            go_simp
            go_at_call 87
            refine (cminus_any _ _ HL.out.2.1 HL.out.1 _).mono ?_
            rintro e w' ⟨rfl, hb⟩; obtain ⟨os, d, rfl⟩ := more_of_below hb; clear hb
            go_simp
            with_reducible exact hK2.out _ ⟨_, _, rfl⟩
          · refine Or.inl ⟨by kernel_rfl, ?_⟩
            rintro w' ⟨os', d', rfl⟩ K2 hK2
            refine wp_load_mid 25 (.tmp 3) rfl w.heap.size 0 rfl (row c).toList _ (HCC.out.more lc os' d') Try.underlying25 rfl infoC8 ?_
            simp only [Act.put, Array.toArray_toList, List.setIfInBounds_toArray, List.set_cons_zero, List.set_cons_succ]
            with_reducible exact hK2.out _ ⟨_, _, rfl⟩
          · refine Or.inl ⟨by kernel_rfl, ?_⟩
            rintro w' ⟨os', d', rfl⟩ K2 hK2
            refine wp_load_mid 25 (.tmp 6) rfl W.heap.size 0 rfl (row x.1.1).toList _ (HPP.out.more lp os' d') Try.underlying25 rfl infoC8 ?_
            simp only [Act.put, Array.toArray_toList, List.setIfInBounds_toArray, List.set_cons_zero, List.set_cons_succ]
            with_reducible exact hK2.out _ ⟨_, _, rfl⟩
          · refine Or.inl ⟨by kernel_rfl, ?_⟩
            rintro w' ⟨os', d', rfl⟩ K2 hK2
            go_simp
            go_at_call 87
            refine (cminus_any _ _ HL.out.2.2.1 HL.out.1 _).mono ?_
            rintro e w' ⟨rfl, hb⟩; obtain ⟨os, d, rfl⟩ := more_of_below hb; clear hb
            go_simp
            with_reducible exact hK2.out _ ⟨_, _, rfl⟩
          · refine Or.inl ⟨by kernel_rfl, ?_⟩
            rintro w' ⟨os', d', rfl⟩ K2 hK2
            go_simp
            go_at_call 67
            refine (cross_any _ _ HL.out.2.2.2.1 HL.out.2.2.2.2.1 _).mono ?_
            rintro e w' ⟨rfl, hb⟩; obtain ⟨os, d, rfl⟩ := more_of_below hb; clear hb
            go_simp
            with_reducible exact hK2.out _ ⟨_, _, rfl⟩
          · refine Or.inl ⟨by kernel_rfl, ?_⟩
            rintro w' ⟨os', d', rfl⟩ K2 hK2
            go_simp
            go_at_call 77
            refine (sign_any _ _ _ _ _ HO1.out).mono ?_
            rw [HS1.out]
            rintro e w' ⟨rfl, hb⟩; obtain ⟨os, d, rfl⟩ := more_of_below hb; clear hb
            go_simp
            with_reducible exact hK2.out _ ⟨_, _, rfl⟩
          · refine Or.inl ⟨by kernel_rfl, ?_⟩
            rintro w' ⟨os', d', rfl⟩ K2 hK2
            go_simp
            try go_wp2_with fail
            with_reducible exact hK2.out _ ⟨_, _, rfl⟩
          · refine Or.inl ⟨by kernel_rfl, ?_⟩
            rintro w' ⟨os', d', rfl⟩ K2 hK2
            go_simp
            try go_wp2_with fail
            with_reducible exact hK2.out _ ⟨_, _, rfl⟩
          · exact Or.inr ⟨by kernel_rfl, fun d hd => by cases hd; rfl⟩
          · exact Or.inr ⟨by kernel_rfl, fun d hd => by cases hd; rfl⟩
          · exact Or.inr ⟨by kernel_rfl, fun d hd => by cases hd; rfl⟩
          · exact Or.inr ⟨by kernel_rfl, fun d hd => by cases hd; rfl⟩
          · exact Or.inr ⟨by kernel_rfl, fun d hd => by cases hd; rfl⟩
          · exact Or.inr ⟨by kernel_rfl, fun d hd => by cases hd; rfl⟩
          · exact Or.inr ⟨by kernel_rfl, fun d hd => by cases hd; rfl⟩
          · exact Or.inr ⟨by kernel_rfl, fun d hd => by cases hd; rfl⟩
          · exact Or.inr ⟨by kernel_rfl, fun d hd => by cases hd; rfl⟩
          · refine Or.inl ⟨by kernel_rfl, ?_⟩
            rintro w' ⟨os', d', rfl⟩ K2 hK2
            go_simp
            try go_wp2_with fail
            with_reducible exact hK2.out _ ⟨_, _, rfl⟩
        · rintro w' ⟨os', d', rfl⟩
          simp only [List.take_succ_cons, List.take_zero, puts, Act.put, List.setIfInBounds_toArray, List.set_cons_zero, List.set_cons_succ, List.drop_succ_cons, List.drop_zero]
          gi_wp2
          have hKS : KpS (w.heap.size + 2) (w.heap.size + 2) W (more ((W.alloc (.cells (row x.1.1) 25)).alloc (.cells (row x.1.2) 25)) os' d') := (((KpS.refl (w.heap.size + 2) (w.heap.size + 2) W).alloc (by omega) (by omega) _).alloc (by simp; omega) (by simp; omega) _).more (by simp; omega) (by simp; omega) os' d'
          exact ⟨(((KeepsOthers.alloc _ _).trans (KeepsOthers.alloc _ _)).trans (keeps_more _ _ _)).from _, hKS, fun y hy => (List.mem_append.1 hy).elim (hS y) (fun e => by rw [List.mem_singleton.1 e]; exact HNO.out), hK.trans hKS⟩
    · intro K hK
      rw [if_pos (by rfl)]
      go_simp
      try go_wp2_with fail
      refine hK.out _ _ ?_ (fun hHeld => ?_)
      · exact ⟨ptAt_alloc hHeld.1 (by first | exact hBxW | (simp; omega)) _, ptAt_alloc hHeld.2 (by first | exact hBxW | (simp; omega)) _⟩
      clear hK K
      try simp only [Act.put, List.setIfInBounds_toArray, List.set_cons_zero, List.set_cons_succ]
      refine wpAnyH_ready (rs := [4]) (by kernel_rfl) (by simp) ?_
      refine AllReadyH.cons rfl ?_ AllReadyH.nil
      intro K hK
      rw [if_pos (by rfl)]
      go_simp
      try go_wp2_with fail
      refine hK.out _ _ ?_ (fun hHeld => ?_)
      · exact ⟨ptAt_alloc hHeld.1 (by first | exact hBxW | (simp; omega)) _, ptAt_alloc hHeld.2 (by first | exact hBxW | (simp; omega)) _⟩
      clear hK K
      try simp only [Act.put, List.setIfInBounds_toArray, List.set_cons_zero, List.set_cons_succ]
      refine wpAnyH_ready (rs := [6]) (by kernel_rfl) (by simp) ?_
      refine AllReadyH.cons rfl ?_ AllReadyH.nil
      intro K hK
      rw [if_pos (by rfl)]
      go_simp
      try go_wp2_with fail
      refine hK.out _ _ ?_ (fun hHeld => ?_)
      · exact ⟨ptAt_alloc (ptAt_alloc (ptAt_drew HF.out) hBxW _) (by simp; omega) _, ptAt_alloc (ptAt_alloc (ptAt_drew HG.out) hBxW _) (by simp; omega) _⟩
      clear hK K
      try simp only [Act.put, List.setIfInBounds_toArray, List.set_cons_zero, List.set_cons_succ]
      refine wpAnyH_ready (rs := [7]) (by kernel_rfl) (by simp) ?_
      refine AllReadyH.cons rfl ?_ AllReadyH.nil
      intro K hK
      rw [if_pos (by rfl)]
      go_simp
      try go_wp2_with fail
      refine hK.out _ _ ?_ (fun hHeld => ?_)
      · exact ⟨ptAt_alloc (ptAt_alloc (ptAt_drew HF.out) hBxW _) (by simp; omega) _, ptAt_alloc (ptAt_alloc (ptAt_drew HG.out) hBxW _) (by simp; omega) _⟩
      clear hK K
      try simp only [Act.put, List.setIfInBounds_toArray, List.set_cons_zero, List.set_cons_succ]
      refine wpAnyH_done (by kernel_rfl) ?_ _
      have HPP := Lib.hid (show PtAt ((W.alloc (.cells (row x.1.2) 25)).alloc (.cells (row x.1.1) 25)) (W.heap.size + 1) 0 x.1.1 from (by simpa using PtAt.new (W.alloc (.cells (row x.1.2) 25)) x.1.1 25))
      have HQQ := Lib.hid (show PtAt ((W.alloc (.cells (row x.1.2) 25)).alloc (.cells (row x.1.1) 25)) W.heap.size 0 x.1.2 from (ptAt_alloc (PtAt.new W x.1.2 25) (by simp) _))
      have HCC := Lib.hid (show PtAt ((W.alloc (.cells (row x.1.2) 25)).alloc (.cells (row x.1.1) 25)) w.heap.size 0 c from ptAt_alloc (ptAt_alloc HCW.out (by omega) _) (by simp; omega) _)
      have lp : (W.heap.size + 1) < ((W.alloc (.cells (row x.1.2) 25)).alloc (.cells (row x.1.1) 25)).heap.size := by simp; try omega
      have lq : W.heap.size < ((W.alloc (.cells (row x.1.2) 25)).alloc (.cells (row x.1.1) 25)).heap.size := by simp; try omega
      have lc : w.heap.size < ((W.alloc (.cells (row x.1.2) 25)).alloc (.cells (row x.1.1) 25)).heap.size := by simp; omega
      clear hHeld
      by_cases h1 : s1 = 0
      · subst h1
        by_cases h2 : s2 ≤ 0
        · have HYES := Lib.hid (show onB c x.1 = true by rw [onB, HON1.out, HON2.out]; simp [h2])
          gi_wp2
          refine region_fixedIn (lets_round l 0) (fun w' => ∃ os' d', w' = more ((W.alloc (.cells (row x.1.2) 25)).alloc (.cells (row x.1.1) 25)) os' d') (by kernel_rfl) 20 [cv x.1.2, cv x.1.1, cv (C8.sub x.1.2 x.1.1), cv c, cv x.1.1, cv (C8.sub c x.1.1), sS (crs (C8.sub x.1.2 x.1.1) (C8.sub c x.1.1)), .int .i64 0, .bool true, .bool true, cv c, cv x.1.1, cv (C8.sub c x.1.1), cv c, cv x.1.2, cv (C8.sub c x.1.2), sS (alg (C8.sub c x.1.1) (C8.sub c x.1.2)), .int .i64 s2, .bool true, .bool true] (by simp) (by kernel_rfl) (by kernel_rfl) ⟨#[], _, (by first | exact drew_self _ | exact drew2_self _)⟩ ?_ ?_
          · simp only [List.take_succ_cons, List.take_zero, puts, Act.put, List.setIfInBounds_toArray, List.set_cons_zero, List.set_cons_succ]
            refine ⟨?_, ?_, ?_, ?_, ?_, ?_, ?_, ?_, ?_, ?_, ?_, ?_, ?_, ?_, ?_, ?_, ?_, ?_, ?_, ?_, trivial⟩
            · refine Or.inl ⟨by kernel_rfl, ?_⟩
              rintro w' ⟨os', d', rfl⟩ K2 hK2
              refine wp_load_mid 25 (.tmp 7) rfl W.heap.size 0 rfl (row x.1.2).toList _ (HQQ.out.more lq os' d') Try.underlying25 rfl infoC8 ?_
              simp only [Act.put, Array.toArray_toList, List.setIfInBounds_toArray, List.set_cons_zero, List.set_cons_succ]
              with_reducible exact hK2.out _ ⟨_, _, rfl⟩
            · refine Or.inl ⟨by kernel_rfl, ?_⟩
              rintro w' ⟨os', d', rfl⟩ K2 hK2
              refine wp_load_mid 25 (.tmp 6) rfl (W.heap.size + 1) 0 rfl (row x.1.1).toList _ (HPP.out.more lp os' d') Try.underlying25 rfl infoC8 ?_
              simp only [Act.put, Array.toArray_toList, List.setIfInBounds_toArray, List.set_cons_zero, List.set_cons_succ]
              with_reducible exact hK2.out _ ⟨_, _, rfl⟩
            · refine Or.inl ⟨by kernel_rfl, ?_⟩
              rintro w' ⟨os', d', rfl⟩ K2 hK2
              go_simp
              go_at_call 87
              refine (cminus_any _ _ HL.out.2.1 HL.out.1 _).mono ?_
              rintro e w' ⟨rfl, hb⟩; obtain ⟨os, d, rfl⟩ := more_of_below hb; clear hb
              go_simp
              with_reducible exact hK2.out _ ⟨_, _, rfl⟩
            · refine Or.inl ⟨by kernel_rfl, ?_⟩
              rintro w' ⟨os', d', rfl⟩ K2 hK2
              refine wp_load_mid 25 (.tmp 3) rfl w.heap.size 0 rfl (row c).toList _ (HCC.out.more lc os' d') Try.underlying25 rfl infoC8 ?_
              simp only [Act.put, Array.toArray_toList, List.setIfInBounds_toArray, List.set_cons_zero, List.set_cons_succ]
              with_reducible exact hK2.out _ ⟨_, _, rfl⟩
            · refine Or.inl ⟨by kernel_rfl, ?_⟩
              rintro w' ⟨os', d', rfl⟩ K2 hK2
              refine wp_load_mid 25 (.tmp 6) rfl (W.heap.size + 1) 0 rfl (row x.1.1).toList _ (HPP.out.more lp os' d') Try.underlying25 rfl infoC8 ?_
              simp only [Act.put, Array.toArray_toList, List.setIfInBounds_toArray, List.set_cons_zero, List.set_cons_succ]
              with_reducible exact hK2.out _ ⟨_, _, rfl⟩
            · refine Or.inl ⟨by kernel_rfl, ?_⟩
              rintro w' ⟨os', d', rfl⟩ K2 hK2
              go_simp
              go_at_call 87
              refine (cminus_any _ _ HL.out.2.2.1 HL.out.1 _).mono ?_
              rintro e w' ⟨rfl, hb⟩; obtain ⟨os, d, rfl⟩ := more_of_below hb; clear hb
              go_simp
              with_reducible exact hK2.out _ ⟨_, _, rfl⟩
            · refine Or.inl ⟨by kernel_rfl, ?_⟩
              rintro w' ⟨os', d', rfl⟩ K2 hK2
              go_simp
              go_at_call 67
              refine (cross_any _ _ HL.out.2.2.2.1 HL.out.2.2.2.2.1 _).mono ?_
              rintro e w' ⟨rfl, hb⟩; obtain ⟨os, d, rfl⟩ := more_of_below hb; clear hb
              go_simp
              with_reducible exact hK2.out _ ⟨_, _, rfl⟩
            · refine Or.inl ⟨by kernel_rfl, ?_⟩
              rintro w' ⟨os', d', rfl⟩ K2 hK2
              go_simp
              go_at_call 77
              refine (sign_any _ _ _ _ _ HO1.out).mono ?_
              rw [HS1.out]
              rintro e w' ⟨rfl, hb⟩; obtain ⟨os, d, rfl⟩ := more_of_below hb; clear hb
              go_simp
              with_reducible exact hK2.out _ ⟨_, _, rfl⟩
            · refine Or.inl ⟨by kernel_rfl, ?_⟩
              rintro w' ⟨os', d', rfl⟩ K2 hK2
              go_simp
              try go_wp2_with fail
              with_reducible exact hK2.out _ ⟨_, _, rfl⟩
            · refine Or.inl ⟨by kernel_rfl, ?_⟩
              rintro w' ⟨os', d', rfl⟩ K2 hK2
              go_simp
              try go_wp2_with fail
              with_reducible exact hK2.out _ ⟨_, _, rfl⟩
            · refine Or.inl ⟨by kernel_rfl, ?_⟩
              rintro w' ⟨os', d', rfl⟩ K2 hK2
              refine wp_load_mid 25 (.tmp 3) rfl w.heap.size 0 rfl (row c).toList _ (HCC.out.more lc os' d') Try.underlying25 rfl infoC8 ?_
              simp only [Act.put, Array.toArray_toList, List.setIfInBounds_toArray, List.set_cons_zero, List.set_cons_succ]
              with_reducible exact hK2.out _ ⟨_, _, rfl⟩
            · refine Or.inl ⟨by kernel_rfl, ?_⟩
              rintro w' ⟨os', d', rfl⟩ K2 hK2
              refine wp_load_mid 25 (.tmp 6) rfl (W.heap.size + 1) 0 rfl (row x.1.1).toList _ (HPP.out.more lp os' d') Try.underlying25 rfl infoC8 ?_
              simp only [Act.put, Array.toArray_toList, List.setIfInBounds_toArray, List.set_cons_zero, List.set_cons_succ]
              with_reducible exact hK2.out _ ⟨_, _, rfl⟩
            · refine Or.inl ⟨by kernel_rfl, ?_⟩
              rintro w' ⟨os', d', rfl⟩ K2 hK2
              go_simp
              go_at_call 87
              refine (cminus_any _ _ HL.out.2.2.1 HL.out.1 _).mono ?_
              rintro e w' ⟨rfl, hb⟩; obtain ⟨os, d, rfl⟩ := more_of_below hb; clear hb
              go_simp
              with_reducible exact hK2.out _ ⟨_, _, rfl⟩
            · refine Or.inl ⟨by kernel_rfl, ?_⟩
              rintro w' ⟨os', d', rfl⟩ K2 hK2
              refine wp_load_mid 25 (.tmp 3) rfl w.heap.size 0 rfl (row c).toList _ (HCC.out.more lc os' d') Try.underlying25 rfl infoC8 ?_
              simp only [Act.put, Array.toArray_toList, List.setIfInBounds_toArray, List.set_cons_zero, List.set_cons_succ]
              with_reducible exact hK2.out _ ⟨_, _, rfl⟩
            · refine Or.inl ⟨by kernel_rfl, ?_⟩
              rintro w' ⟨os', d', rfl⟩ K2 hK2
              refine wp_load_mid 25 (.tmp 7) rfl W.heap.size 0 rfl (row x.1.2).toList _ (HQQ.out.more lq os' d') Try.underlying25 rfl infoC8 ?_
              simp only [Act.put, Array.toArray_toList, List.setIfInBounds_toArray, List.set_cons_zero, List.set_cons_succ]
              with_reducible exact hK2.out _ ⟨_, _, rfl⟩
            · refine Or.inl ⟨by kernel_rfl, ?_⟩
              rintro w' ⟨os', d', rfl⟩ K2 hK2
              go_simp
              go_at_call 87
              refine (cminus_any _ _ HL.out.2.2.1 HL.out.2.1 _).mono ?_
              rintro e w' ⟨rfl, hb⟩; obtain ⟨os, d, rfl⟩ := more_of_below hb; clear hb
              go_simp
              with_reducible exact hK2.out _ ⟨_, _, rfl⟩
            · refine Or.inl ⟨by kernel_rfl, ?_⟩
              rintro w' ⟨os', d', rfl⟩ K2 hK2
              go_simp
              go_at_call 117
              refine (along_any _ _ HL.out.2.2.2.2.1 HL.out.2.2.2.2.2 _).mono ?_
              rintro e w' ⟨rfl, hb⟩; obtain ⟨os, d, rfl⟩ := more_of_below hb; clear hb
              go_simp
              with_reducible exact hK2.out _ ⟨_, _, rfl⟩
            · refine Or.inl ⟨by kernel_rfl, ?_⟩
              rintro w' ⟨os', d', rfl⟩ K2 hK2
              go_simp
              go_at_call 77
              refine (sign_any _ _ _ _ _ HO2.out).mono ?_
              rw [HS2.out]
              rintro e w' ⟨rfl, hb⟩; obtain ⟨os, d, rfl⟩ := more_of_below hb; clear hb
              go_simp
              with_reducible exact hK2.out _ ⟨_, _, rfl⟩
            · refine Or.inl ⟨by kernel_rfl, ?_⟩
              rintro w' ⟨os', d', rfl⟩ K2 hK2
              go_simp
              try go_wp2_with fail
              with_reducible exact hK2.out _ ⟨_, _, rfl⟩
            · refine Or.inl ⟨by kernel_rfl, ?_⟩
              rintro w' ⟨os', d', rfl⟩ K2 hK2
              go_simp
              try go_wp2_with fail
              with_reducible exact hK2.out _ ⟨_, _, rfl⟩
          · rintro w' ⟨os', d', rfl⟩
            simp only [List.take_succ_cons, List.take_zero, puts, Act.put, List.setIfInBounds_toArray, List.set_cons_zero, List.set_cons_succ, List.drop_succ_cons, List.drop_zero]
            gi_wp2
            refine ⟨((((KeepsOthers.setCell _ _ _).trans (KeepsOthers.alloc _ _)).trans (KeepsOthers.alloc _ _)).trans (keeps_more _ _ _)).from _, ⟨rfl, ⟨x, by simp, HYES.out⟩, ?_⟩, by repeat' (first | (with_reducible exact Below.refl _ _) | (with_reducible assumption) | (with_reducible refine Below.alloc ?_ ?_ _) | (with_reducible refine below_more ?_ ?_ _ _) | (with_reducible refine below_rd ?_ ?_ _ _) | (with_reducible refine Below.drew ?_) | (with_reducible refine Below.setCell ?_ ?_ _) | go_size)⟩
            have hb3 : Below (w.heap.size + 2) (W.setCell ⟨w.heap.size + 1, 0, none⟩ (.bool true)) (more (((W.setCell ⟨w.heap.size + 1, 0, none⟩ (.bool true)).alloc (.cells (row x.1.2) 25)).alloc (.cells (row x.1.1) 25)) os' d') := by repeat' (first | (with_reducible exact Below.refl _ _) | (with_reducible assumption) | (with_reducible refine Below.alloc ?_ ?_ _) | (with_reducible refine below_more ?_ ?_ _ _) | (with_reducible refine below_rd ?_ ?_ _ _) | (with_reducible refine Below.drew ?_) | (with_reducible refine Below.setCell ?_ ?_ _) | go_size)
            exact (hb3.cell (p := ⟨w.heap.size + 1, 0, none⟩) (by show w.heap.size + 1 < _; omega)).trans (World.cell?_setCell_same' _ _ _ (by rw [r1]; rfl))
        · have HNO := Lib.hid (show onB c x.1 = false by rw [onB, HON1.out, HON2.out]; simp [h2])
          have h2b := decide_eq_false h2
          gi_wp2
          refine region_fixedIn (lets_round l 0) (fun w' => ∃ os' d', w' = more ((W.alloc (.cells (row x.1.2) 25)).alloc (.cells (row x.1.1) 25)) os' d') (by kernel_rfl) 20 [cv x.1.2, cv x.1.1, cv (C8.sub x.1.2 x.1.1), cv c, cv x.1.1, cv (C8.sub c x.1.1), sS (crs (C8.sub x.1.2 x.1.1) (C8.sub c x.1.1)), .int .i64 0, .bool true, .bool true, cv c, cv x.1.1, cv (C8.sub c x.1.1), cv c, cv x.1.2, cv (C8.sub c x.1.2), sS (alg (C8.sub c x.1.1) (C8.sub c x.1.2)), .int .i64 s2, .bool false, .bool false] (by simp) (by kernel_rfl) (by kernel_rfl) ⟨#[], _, (by first | exact drew_self _ | exact drew2_self _)⟩ ?_ ?_
          · simp only [List.take_succ_cons, List.take_zero, puts, Act.put, List.setIfInBounds_toArray, List.set_cons_zero, List.set_cons_succ]
            refine ⟨?_, ?_, ?_, ?_, ?_, ?_, ?_, ?_, ?_, ?_, ?_, ?_, ?_, ?_, ?_, ?_, ?_, ?_, ?_, ?_, trivial⟩
            · refine Or.inl ⟨by kernel_rfl, ?_⟩
              rintro w' ⟨os', d', rfl⟩ K2 hK2
              refine wp_load_mid 25 (.tmp 7) rfl W.heap.size 0 rfl (row x.1.2).toList _ (HQQ.out.more lq os' d') Try.underlying25 rfl infoC8 ?_
              simp only [Act.put, Array.toArray_toList, List.setIfInBounds_toArray, List.set_cons_zero, List.set_cons_succ]
              with_reducible exact hK2.out _ ⟨_, _, rfl⟩
            · refine Or.inl ⟨by kernel_rfl, ?_⟩
              rintro w' ⟨os', d', rfl⟩ K2 hK2
              refine wp_load_mid 25 (.tmp 6) rfl (W.heap.size + 1) 0 rfl (row x.1.1).toList _ (HPP.out.more lp os' d') Try.underlying25 rfl infoC8 ?_
              simp only [Act.put, Array.toArray_toList, List.setIfInBounds_toArray, List.set_cons_zero, List.set_cons_succ]
              with_reducible exact hK2.out _ ⟨_, _, rfl⟩
            · refine Or.inl ⟨by kernel_rfl, ?_⟩
              rintro w' ⟨os', d', rfl⟩ K2 hK2
              go_simp
              go_at_call 87
              refine (cminus_any _ _ HL.out.2.1 HL.out.1 _).mono ?_
              rintro e w' ⟨rfl, hb⟩; obtain ⟨os, d, rfl⟩ := more_of_below hb; clear hb
              go_simp
              with_reducible exact hK2.out _ ⟨_, _, rfl⟩
            · refine Or.inl ⟨by kernel_rfl, ?_⟩
              rintro w' ⟨os', d', rfl⟩ K2 hK2
              refine wp_load_mid 25 (.tmp 3) rfl w.heap.size 0 rfl (row c).toList _ (HCC.out.more lc os' d') Try.underlying25 rfl infoC8 ?_
              simp only [Act.put, Array.toArray_toList, List.setIfInBounds_toArray, List.set_cons_zero, List.set_cons_succ]
              with_reducible exact hK2.out _ ⟨_, _, rfl⟩
            · refine Or.inl ⟨by kernel_rfl, ?_⟩
              rintro w' ⟨os', d', rfl⟩ K2 hK2
              refine wp_load_mid 25 (.tmp 6) rfl (W.heap.size + 1) 0 rfl (row x.1.1).toList _ (HPP.out.more lp os' d') Try.underlying25 rfl infoC8 ?_
              simp only [Act.put, Array.toArray_toList, List.setIfInBounds_toArray, List.set_cons_zero, List.set_cons_succ]
              with_reducible exact hK2.out _ ⟨_, _, rfl⟩
            · refine Or.inl ⟨by kernel_rfl, ?_⟩
              rintro w' ⟨os', d', rfl⟩ K2 hK2
              go_simp
              go_at_call 87
              refine (cminus_any _ _ HL.out.2.2.1 HL.out.1 _).mono ?_
              rintro e w' ⟨rfl, hb⟩; obtain ⟨os, d, rfl⟩ := more_of_below hb; clear hb
              go_simp
              with_reducible exact hK2.out _ ⟨_, _, rfl⟩
            · refine Or.inl ⟨by kernel_rfl, ?_⟩
              rintro w' ⟨os', d', rfl⟩ K2 hK2
              go_simp
              go_at_call 67
              refine (cross_any _ _ HL.out.2.2.2.1 HL.out.2.2.2.2.1 _).mono ?_
              rintro e w' ⟨rfl, hb⟩; obtain ⟨os, d, rfl⟩ := more_of_below hb; clear hb
              go_simp
              with_reducible exact hK2.out _ ⟨_, _, rfl⟩
            · refine Or.inl ⟨by kernel_rfl, ?_⟩
              rintro w' ⟨os', d', rfl⟩ K2 hK2
              go_simp
              go_at_call 77
              refine (sign_any _ _ _ _ _ HO1.out).mono ?_
              rw [HS1.out]
              rintro e w' ⟨rfl, hb⟩; obtain ⟨os, d, rfl⟩ := more_of_below hb; clear hb
              go_simp
              with_reducible exact hK2.out _ ⟨_, _, rfl⟩
            · refine Or.inl ⟨by kernel_rfl, ?_⟩
              rintro w' ⟨os', d', rfl⟩ K2 hK2
              go_simp
              try go_wp2_with fail
              with_reducible exact hK2.out _ ⟨_, _, rfl⟩
            · refine Or.inl ⟨by kernel_rfl, ?_⟩
              rintro w' ⟨os', d', rfl⟩ K2 hK2
              go_simp
              try go_wp2_with fail
              with_reducible exact hK2.out _ ⟨_, _, rfl⟩
            · refine Or.inl ⟨by kernel_rfl, ?_⟩
              rintro w' ⟨os', d', rfl⟩ K2 hK2
              refine wp_load_mid 25 (.tmp 3) rfl w.heap.size 0 rfl (row c).toList _ (HCC.out.more lc os' d') Try.underlying25 rfl infoC8 ?_
              simp only [Act.put, Array.toArray_toList, List.setIfInBounds_toArray, List.set_cons_zero, List.set_cons_succ]
              with_reducible exact hK2.out _ ⟨_, _, rfl⟩
            · refine Or.inl ⟨by kernel_rfl, ?_⟩
              rintro w' ⟨os', d', rfl⟩ K2 hK2
              refine wp_load_mid 25 (.tmp 6) rfl (W.heap.size + 1) 0 rfl (row x.1.1).toList _ (HPP.out.more lp os' d') Try.underlying25 rfl infoC8 ?_
              simp only [Act.put, Array.toArray_toList, List.setIfInBounds_toArray, List.set_cons_zero, List.set_cons_succ]
              with_reducible exact hK2.out _ ⟨_, _, rfl⟩
            · refine Or.inl ⟨by kernel_rfl, ?_⟩
              rintro w' ⟨os', d', rfl⟩ K2 hK2
              go_simp
              go_at_call 87
              refine (cminus_any _ _ HL.out.2.2.1 HL.out.1 _).mono ?_
              rintro e w' ⟨rfl, hb⟩; obtain ⟨os, d, rfl⟩ := more_of_below hb; clear hb
              go_simp
              with_reducible exact hK2.out _ ⟨_, _, rfl⟩
            · refine Or.inl ⟨by kernel_rfl, ?_⟩
              rintro w' ⟨os', d', rfl⟩ K2 hK2
              refine wp_load_mid 25 (.tmp 3) rfl w.heap.size 0 rfl (row c).toList _ (HCC.out.more lc os' d') Try.underlying25 rfl infoC8 ?_
              simp only [Act.put, Array.toArray_toList, List.setIfInBounds_toArray, List.set_cons_zero, List.set_cons_succ]
              with_reducible exact hK2.out _ ⟨_, _, rfl⟩
            · refine Or.inl ⟨by kernel_rfl, ?_⟩
              rintro w' ⟨os', d', rfl⟩ K2 hK2
              refine wp_load_mid 25 (.tmp 7) rfl W.heap.size 0 rfl (row x.1.2).toList _ (HQQ.out.more lq os' d') Try.underlying25 rfl infoC8 ?_
              simp only [Act.put, Array.toArray_toList, List.setIfInBounds_toArray, List.set_cons_zero, List.set_cons_succ]
              with_reducible exact hK2.out _ ⟨_, _, rfl⟩
            · refine Or.inl ⟨by kernel_rfl, ?_⟩
              rintro w' ⟨os', d', rfl⟩ K2 hK2
              go_simp
              go_at_call 87
              refine (cminus_any _ _ HL.out.2.2.1 HL.out.2.1 _).mono ?_
              rintro e w' ⟨rfl, hb⟩; obtain ⟨os, d, rfl⟩ := more_of_below hb; clear hb
              go_simp
              with_reducible exact hK2.out _ ⟨_, _, rfl⟩
            · refine Or.inl ⟨by kernel_rfl, ?_⟩
              rintro w' ⟨os', d', rfl⟩ K2 hK2
              go_simp
              go_at_call 117
              refine (along_any _ _ HL.out.2.2.2.2.1 HL.out.2.2.2.2.2 _).mono ?_
              rintro e w' ⟨rfl, hb⟩; obtain ⟨os, d, rfl⟩ := more_of_below hb; clear hb
              go_simp
              with_reducible exact hK2.out _ ⟨_, _, rfl⟩
            · refine Or.inl ⟨by kernel_rfl, ?_⟩
              rintro w' ⟨os', d', rfl⟩ K2 hK2
              go_simp
              go_at_call 77
              refine (sign_any _ _ _ _ _ HO2.out).mono ?_
              rw [HS2.out]
              rintro e w' ⟨rfl, hb⟩; obtain ⟨os, d, rfl⟩ := more_of_below hb; clear hb
              go_simp
              with_reducible exact hK2.out _ ⟨_, _, rfl⟩
            · refine Or.inl ⟨by kernel_rfl, ?_⟩
              rintro w' ⟨os', d', rfl⟩ K2 hK2
              go_simp
              try go_wp2_with fail
              with_reducible exact hK2.out _ ⟨_, _, rfl⟩
            · refine Or.inl ⟨by kernel_rfl, ?_⟩
              rintro w' ⟨os', d', rfl⟩ K2 hK2
              go_simp
              try go_wp2_with fail
              with_reducible exact hK2.out _ ⟨_, _, rfl⟩
          · rintro w' ⟨os', d', rfl⟩
            simp only [List.take_succ_cons, List.take_zero, puts, Act.put, List.setIfInBounds_toArray, List.set_cons_zero, List.set_cons_succ, List.drop_succ_cons, List.drop_zero]
            gi_wp2
            have hKS : KpS (w.heap.size + 2) (w.heap.size + 2) W (more ((W.alloc (.cells (row x.1.2) 25)).alloc (.cells (row x.1.1) 25)) os' d') := (((KpS.refl (w.heap.size + 2) (w.heap.size + 2) W).alloc (by omega) (by omega) _).alloc (by simp; omega) (by simp; omega) _).more (by simp; omega) (by simp; omega) os' d'
            exact ⟨(((KeepsOthers.alloc _ _).trans (KeepsOthers.alloc _ _)).trans (keeps_more _ _ _)).from _, hKS, fun y hy => (List.mem_append.1 hy).elim (hS y) (fun e => by rw [List.mem_singleton.1 e]; exact HNO.out), hK.trans hKS⟩
      · have HNO := Lib.hid (show onB c x.1 = false by rw [onB, HON1.out]; simp [h1])
        have h1b : (s1 == 0) = false := by rw [beq_eq_false_iff_ne]; exact h1
        gi_wp2
        refine region_fixedIn (lets_round l 0) (fun w' => ∃ os' d', w' = more ((W.alloc (.cells (row x.1.2) 25)).alloc (.cells (row x.1.1) 25)) os' d') (by kernel_rfl) 20 [cv x.1.2, cv x.1.1, cv (C8.sub x.1.2 x.1.1), cv c, cv x.1.1, cv (C8.sub c x.1.1), sS (crs (C8.sub x.1.2 x.1.1) (C8.sub c x.1.1)), .int .i64 s1, .bool false, .bool false, undef, undef, undef, undef, undef, undef, undef, undef, undef, .bool false] (by simp) (by kernel_rfl) (by kernel_rfl) ⟨#[], _, (by first | exact drew_self _ | exact drew2_self _)⟩ ?_ ?_
        · simp only [List.take_succ_cons, List.take_zero, puts, Act.put, List.setIfInBounds_toArray, List.set_cons_zero, List.set_cons_succ]
          refine ⟨?_, ?_, ?_, ?_, ?_, ?_, ?_, ?_, ?_, ?_, ?_, ?_, ?_, ?_, ?_, ?_, ?_, ?_, ?_, ?_, trivial⟩
          · refine Or.inl ⟨by kernel_rfl, ?_⟩
            rintro w' ⟨os', d', rfl⟩ K2 hK2
            refine wp_load_mid 25 (.tmp 7) rfl W.heap.size 0 rfl (row x.1.2).toList _ (HQQ.out.more lq os' d') Try.underlying25 rfl infoC8 ?_
            simp only [Act.put, Array.toArray_toList, List.setIfInBounds_toArray, List.set_cons_zero, List.set_cons_succ]
            with_reducible exact hK2.out _ ⟨_, _, rfl⟩
          · refine Or.inl ⟨by kernel_rfl, ?_⟩
            rintro w' ⟨os', d', rfl⟩ K2 hK2
            refine wp_load_mid 25 (.tmp 6) rfl (W.heap.size + 1) 0 rfl (row x.1.1).toList _ (HPP.out.more lp os' d') Try.underlying25 rfl infoC8 ?_
            simp only [Act.put, Array.toArray_toList, List.setIfInBounds_toArray, List.set_cons_zero, List.set_cons_succ]
            with_reducible exact hK2.out _ ⟨_, _, rfl⟩
          · refine Or.inl ⟨by kernel_rfl, ?_⟩
            rintro w' ⟨os', d', rfl⟩ K2 hK2
            go_simp
            go_at_call 87
            refine (cminus_any _ _ HL.out.2.1 HL.out.1 _).mono ?_
            rintro e w' ⟨rfl, hb⟩; obtain ⟨os, d, rfl⟩ := more_of_below hb; clear hb
            go_simp
            with_reducible exact hK2.out _ ⟨_, _, rfl⟩
          · refine Or.inl ⟨by kernel_rfl, ?_⟩
            rintro w' ⟨os', d', rfl⟩ K2 hK2
            refine wp_load_mid 25 (.tmp 3) rfl w.heap.size 0 rfl (row c).toList _ (HCC.out.more lc os' d') Try.underlying25 rfl infoC8 ?_
            simp only [Act.put, Array.toArray_toList, List.setIfInBounds_toArray, List.set_cons_zero, List.set_cons_succ]
            with_reducible exact hK2.out _ ⟨_, _, rfl⟩
          · refine Or.inl ⟨by kernel_rfl, ?_⟩
            rintro w' ⟨os', d', rfl⟩ K2 hK2
            refine wp_load_mid 25 (.tmp 6) rfl (W.heap.size + 1) 0 rfl (row x.1.1).toList _ (HPP.out.more lp os' d') Try.underlying25 rfl infoC8 ?_
            simp only [Act.put, Array.toArray_toList, List.setIfInBounds_toArray, List.set_cons_zero, List.set_cons_succ]
            with_reducible exact hK2.out _ ⟨_, _, rfl⟩
          · refine Or.inl ⟨by kernel_rfl, ?_⟩
            rintro w' ⟨os', d', rfl⟩ K2 hK2
            go_simp
            go_at_call 87
            refine (cminus_any _ _ HL.out.2.2.1 HL.out.1 _).mono ?_
            rintro e w' ⟨rfl, hb⟩; obtain ⟨os, d, rfl⟩ := more_of_below hb; clear hb
            go_simp
            with_reducible exact hK2.out _ ⟨_, _, rfl⟩
          · refine Or.inl ⟨by kernel_rfl, ?_⟩
            rintro w' ⟨os', d', rfl⟩ K2 hK2
            go_simp
            go_at_call 67
            refine (cross_any _ _ HL.out.2.2.2.1 HL.out.2.2.2.2.1 _).mono ?_
            rintro e w' ⟨rfl, hb⟩; obtain ⟨os, d, rfl⟩ := more_of_below hb; clear hb
            go_simp
            with_reducible exact hK2.out _ ⟨_, _, rfl⟩
          · refine Or.inl ⟨by kernel_rfl, ?_⟩
            rintro w' ⟨os', d', rfl⟩ K2 hK2
            go_simp
            go_at_call 77
            refine (sign_any _ _ _ _ _ HO1.out).mono ?_
            rw [HS1.out]
            rintro e w' ⟨rfl, hb⟩; obtain ⟨os, d, rfl⟩ := more_of_below hb; clear hb
            go_simp
            with_reducible exact hK2.out _ ⟨_, _, rfl⟩
          · refine Or.inl ⟨by kernel_rfl, ?_⟩
            rintro w' ⟨os', d', rfl⟩ K2 hK2
            go_simp
            try go_wp2_with fail
            with_reducible exact hK2.out _ ⟨_, _, rfl⟩
          · refine Or.inl ⟨by kernel_rfl, ?_⟩
            rintro w' ⟨os', d', rfl⟩ K2 hK2
            go_simp
            try go_wp2_with fail
            with_reducible exact hK2.out _ ⟨_, _, rfl⟩
          · exact Or.inr ⟨by kernel_rfl, fun d hd => by cases hd; rfl⟩
          · exact Or.inr ⟨by kernel_rfl, fun d hd => by cases hd; rfl⟩
          · exact Or.inr ⟨by kernel_rfl, fun d hd => by cases hd; rfl⟩
          · exact Or.inr ⟨by kernel_rfl, fun d hd => by cases hd; rfl⟩
          · exact Or.inr ⟨by kernel_rfl, fun d hd => by cases hd; rfl⟩
          · exact Or.inr ⟨by kernel_rfl, fun d hd => by cases hd; rfl⟩
          · exact Or.inr ⟨by kernel_rfl, fun d hd => by cases hd; rfl⟩
          · exact Or.inr ⟨by kernel_rfl, fun d hd => by cases hd; rfl⟩
          · exact Or.inr ⟨by kernel_rfl, fun d hd => by cases hd; rfl⟩
          · refine Or.inl ⟨by kernel_rfl, ?_⟩
            rintro w' ⟨os', d', rfl⟩ K2 hK2
            go_simp
            try go_wp2_with fail
            with_reducible exact hK2.out _ ⟨_, _, rfl⟩
        · rintro w' ⟨os', d', rfl⟩
          simp only [List.take_succ_cons, List.take_zero, puts, Act.put, List.setIfInBounds_toArray, List.set_cons_zero, List.set_cons_succ, List.drop_succ_cons, List.drop_zero]
          gi_wp2
          have hKS : KpS (w.heap.size + 2) (w.heap.size + 2) W (more ((W.alloc (.cells (row x.1.2) 25)).alloc (.cells (row x.1.1) 25)) os' d') := (((KpS.refl (w.heap.size + 2) (w.heap.size + 2) W).alloc (by omega) (by omega) _).alloc (by simp; omega) (by simp; omega) _).more (by simp; omega) (by simp; omega) os' d'
          exact ⟨(((KeepsOthers.alloc _ _).trans (KeepsOthers.alloc _ _)).trans (keeps_more _ _ _)).from _, hKS, fun y hy => (List.mem_append.1 hy).elim (hS y) (fun e => by rw [List.mem_singleton.1 e]; exact HNO.out), hK.trans hKS⟩
  case done =>
    rintro D ys W hD hys ⟨hS, hK⟩ hKd
    have hsW := hK.1.size
    have hlw1 : w.heap.size + 1 < W.heap.size := by omega
    have r1 : W.cell? ⟨w.heap.size + 1, 0, none⟩ = some (.bool false) := (hK.1.cell (p := ⟨w.heap.size + 1, 0, none⟩) (by show w.heap.size + 1 < _; omega)).trans hR0.1
    have r2 : W.frozen? ⟨w.heap.size + 1, 0, none⟩ = false := (World.frozen?_of_block (w := WX) (by obtain ⟨_, _, _, _, h5⟩ := hK.1; exact h5 (w.heap.size + 1) (by omega))).trans hR0.2
    have HON := Lib.hid (show onA xs c = false by
      unfold onA
      rw [← hys, List.any_eq_false]
      intro y hy
      obtain ⟨z, hz, rfl⟩ := List.mem_map.1 hy
      rw [hS z hz]; simp)
    clear hS hys
    gi_wp2
    have hD1 := (KeepsOthers.setCell W ⟨w.heap.size + 1, 0, none⟩ (.bool false)).same D _ hKd rfl
    refine ⟨by simp, .inl ⟨_, _, rfl, run_takeDeferred hD1, ?_⟩⟩
    have hc5 := cell_kept (World.cell?_setCell_same' W ⟨w.heap.size + 1, 0, none⟩ (.bool false) (by rw [r1]; rfl)) (grownBy_putObj' _ D (.deferred none)) (fun r e => by cases e; exact ⟨_, hD1, rfl⟩)
    have hBW : Below w.heap.size w W := hB0.trans (hK.1.mono (by omega))
    refine ⟨.bool false, ?_, by rw [HON.out], (hBW.setCell (p := ⟨w.heap.size + 1, 0, none⟩) (by simp) _).trans (belowK_b (w := w) (Nat.le_refl _) _ D _ _ (by omega) hD1 rfl rfl)⟩
    simp [results, Try.f84, go_sem, hc5]
  case stop =>
    rintro D cc pre W hD ⟨k, hk, hpre⟩ ⟨⟨rfl, ⟨y, hy, hyo⟩, hcr⟩, hB⟩ hKd
    have HON := Lib.hid (show onA xs c = true by
      unfold onA
      rw [List.any_eq_true]
      refine ⟨y.1, ?_, hyo⟩
      have h1 : y.1 ∈ sidesUpto xs k := by rw [← hpre]; exact List.mem_map.2 ⟨y, hy, rfl⟩
      unfold sidesUpto at h1 ⊢
      obtain ⟨j, hj, hje⟩ := List.mem_map.1 h1
      exact List.mem_map.2 ⟨j, List.mem_range.2 (by have := List.mem_range.1 hj; omega), hje⟩)
    clear hpre
    gi_wp2
    refine ⟨by simp, .inl ⟨_, _, rfl, run_takeDeferred hKd, ?_⟩⟩
    have hc5 := cell_kept hcr (grownBy_putObj' _ D (.deferred none)) (fun r e => by cases e; exact ⟨_, hKd, rfl⟩)
    refine ⟨.bool true, ?_, by rw [HON.out], hB.trans (belowK_b (w := w) (Nat.le_refl _) W D _ _ (by omega) hKd rfl rfl)⟩
    simp [results, Try.f84, go_sem, hc5]
end Go.Proofs.Ytklmlodapinflaa
