/- Designs read (the program): what the readers lean on in the world; strconv.Atoi at every text; the wheel of a word. -/
import Derived.Test.YthojdoiffkdikaaGreatDoorRdB
import Derived.Test.YthojdoiffkdikaaGreatDoorSeqBox
import Derived.Test.YthojdoiffkdikaaGreatDoorSplitQ
namespace Go.Proofs.YthojdoiffkdikaaGreatDoor
open Go.RowKit Go.PlotT

def ErrIs (n : String) (w : World) : Prop := ∃ tp p, w.var? Tryz.prog n = some #[.iface tp p]
theorem var_below {n : String} {cs : Array Value} {w w' : World} (h : w.var? Tryz.prog n = some cs) (hb : Below w.heap.size w w') : w'.var? Tryz.prog n = some cs := by
  unfold World.var? at h ⊢
  cases hg : Tryz.prog.globalNamed n with
  | none => rw [hg] at h; cases h
  | some g =>
    rw [hg] at h
    simp only [Option.bind_some] at h ⊢
    have hlt : g < w.heap.size := by
      rcases Nat.lt_or_ge g w.heap.size with h' | h'
      · exact h'
      · rw [Array.getElem?_eq_none h'] at h; cases h
    rw [hb.block g hlt]
    exact h
/-- What the readers lean on. -/
structure Env (w : World) : Prop where
  len : ∃ m, w.cell? ⟨0, 0, none⟩ = some (.int .i64 m)
  tab : Tab10 w
  syn : ErrIs "strconv.ErrSyntax" w
  rng : ErrIs "strconv.ErrRange" w
theorem Env.below {w w' : World} (h : Env w) (hb : Below w.heap.size w w') : Env w' := by
  obtain ⟨m, hm⟩ := h.len
  obtain ⟨t1, p1, h1⟩ := h.syn
  obtain ⟨t2, p2, h2⟩ := h.rng
  exact ⟨⟨m, (hb.cell (p := ⟨0, 0, none⟩) (block_lt_of_cell hm)).trans hm⟩, h.tab.below hb, ⟨t1, p1, var_below h1 hb⟩, ⟨t2, p2, var_below h2 hb⟩⟩
theorem atoi_ok (s : ByteArray) (hs : s.size ≤ 1048576) (h : isOk s.data.toList = true) (w : World) :
    Calls Tryz.prog 59 #[.string s] w fun e w' => e = .returned (.tuple #[.int .i64 (numI s.data.toList), .nilIface]) ∧ Below w.heap.size w w' := by
  cases ha : Lib.atoiAll s.data.toList with
  | ok v =>
    have hv : numI s.data.toList = v := by unfold numI; rw [ha]
    rw [hv]
    refine (Tryz.strconv_Atoi_ok s (by omega) v ha w).mono ?_
    rintro e w' ⟨rfl, rfl | ⟨t, rfl⟩⟩
    · exact ⟨rfl, Below.refl _ _⟩
    · exact ⟨rfl, Lib.bytesWorld_below _ _ _⟩
  | «syntax» => unfold isOk at h; rw [ha] at h; cases h
  | range => unfold isOk at h; rw [ha] at h; cases h
theorem atoi_bad (s : ByteArray) (hs : s.size ≤ 1048576) (h : isOk s.data.toList = false) (w : World) (hE : Env w) :
    Calls Tryz.prog 59 #[.string s] w fun e w' => (∃ v T N, e = .returned (.tuple #[.int .i64 v, .iface T (.pointer (some ⟨N, 0, none⟩))])) ∧ Below w.heap.size w w' := by
  obtain ⟨t1, p1, h1⟩ := hE.syn
  obtain ⟨t2, p2, h2⟩ := hE.rng
  cases ha : Lib.atoiAll s.data.toList with
  | ok v => unfold isOk at h; rw [ha] at h; cases h
  | «syntax» =>
    refine (Tryz.strconv_Atoi_syntax_var s (by omega) ha t1 p1 w h1).mono ?_
    rintro e w' ⟨N, rfl, -, -, hb⟩
    exact ⟨⟨_, _, N, rfl⟩, hb⟩
  | range =>
    refine (Tryz.strconv_Atoi_range_var s (by omega) ha t2 p2 w h2).mono ?_
    rintro e w' ⟨N, rfl, -, -, hb⟩
    exact ⟨⟨_, _, N, rfl⟩, hb⟩
/-- strings.Split at a byte. -/
theorem split_any (s : ByteArray) (c : UInt8) (hs : s.size ≤ 1048576) (w : World) (hE : Env w) {n : Nat} (hn : (cutC c s.data.toList).length = n) :
    Calls Tryz.prog 54 #[.string s, .string ⟨#[c]⟩] w fun e w' => ∃ g, e = .returned (.slice (some ⟨g, 0, none⟩) n n) ∧ (∀ i x, (cutC c s.data.toList)[i]? = some x → w'.cell? ⟨g, i, none⟩ = some (bstr x)) ∧ g < w'.heap.size ∧ Below w.heap.size w w' := by
  obtain ⟨m, hm⟩ := hE.len
  refine (Tryz.strings_Split s ⟨#[c]⟩ m w (by omega) hm (Nat.le_refl 1)).mono ?_
  rintro e w' ⟨rfl, rfl⟩
  rw [countB_cutC, hn]
  refine ⟨w.heap.size, rfl, fun i x hx => ?_, by simp, (Below.refl _ _).alloc (Nat.le_refl _) _⟩
  rw [new_cell, splitB_cutC, List.getElem?_toArray, List.getElem?_map, hx]
  rfl
/-- What the wheel of a word leaves. -/
def WhPost (w : World) (r : Option W9) (e : Ending) (w' : World) : Prop :=
  ∃ x, e = .returned (.tuple #[wv x, .bool r.isSome]) ∧ (∀ y, r = some y → x = y) ∧ Below w.heap.size w w'
theorem WhPost.no {w w' : World} {e : Ending} {r : Option W9} {x : W9} (hr : r = none) (he : e = .returned (.tuple #[wv x, .bool false])) (hb : Below w.heap.size w w') : WhPost w r e w' := by
  subst hr; exact ⟨x, he, (fun y h => by cases h), hb⟩
theorem below_dN {n₀ : Nat} {w w' : World} (h : Below n₀ w w') (n : Nat) : Below n₀ w (w'.drewN n) := h.trans ⟨rfl, rfl, rfl, Nat.le_refl _, fun _ _ => rfl⟩
theorem cut_any (s A B : ByteArray) (found : Bool) (hA : (Lib.cut s.data.toList [58]).1 = A.data.toList) (hB : (Lib.cut s.data.toList [58]).2.1 = B.data.toList) (hF : (Lib.cut s.data.toList [58]).2.2 = found) (hs : s.size ≤ 1048576) (w : World) (hE : Env w) :
    Calls Tryz.prog 58 #[.string s, .string ⟨#[58]⟩] w fun e w' => e = .returned (.tuple #[.string A, .string B, .bool found]) ∧ Below w.heap.size w w' := by
  obtain ⟨m, hm⟩ := hE.len
  refine (Tryz.strings_Cut s ⟨#[58]⟩ m w (by omega) hm).mono ?_
  rintro e w' ⟨rfl, n, rfl⟩
  refine ⟨?_, below_dN (Below.refl _ _) n⟩
  show Ending.returned (.tuple #[.string ⟨(Lib.cut s.data.toList [58]).1.toArray⟩, .string ⟨(Lib.cut s.data.toList [58]).2.1.toArray⟩, .bool (Lib.cut s.data.toList [58]).2.2]) = _
  rw [hA, hB, hF, mk_data, mk_data]
theorem cut_len (l sep : Tx) : (Lib.cut l sep).1.length ≤ l.length ∧ (Lib.cut l sep).2.1.length ≤ l.length := by
  unfold Lib.cut
  split
  · simp only [List.length_take, List.length_drop]; omega
  · simp
/-- The wheel of nothing, as the walk spells it. -/
abbrev Z9 : W9 := ⟨0, ⟨0, 0, 0, 0, 0, 0, 0, 0⟩⟩
theorem setCells_box {w : World} {b : Nat} {T : TypeId} {r : W9} (h : w.heap[b]? = some (.cells (rowW r) T (0, 0))) (x : W9) : w.setCells b 0 (rowW x).toList = blk w b T (rowW x) := by
  have hg : b < w.heap.size := (Array.getElem?_eq_some_iff.1 h).1
  have e := blk_self h
  conv => lhs; rw [e]
  rw [rowW_list]
  simp only [World.setCells, blk_set _ _ hg, Nat.zero_add, Nat.reduceAdd]
  refine congrArg (blk w b T) ?_
  simp only [rowW, List.setIfInBounds_toArray, List.set_cons_zero, List.set_cons_succ]
/-- A wheel is stored into a box. -/
theorem wpList_store_box {ops : Array Oper} {rest : List Oper} {op : Oper} {a : Act} {w : World} {Q : Exit → Act → World → Prop} (hgd : op.guard = none) (x y : Operand) (ho : op.op = .store 61 x y)
    (b : Nat) (r c : W9) (hb : w.heap[b]? = some (.cells (rowW r) 61 (0, 0))) (hx : a.eval x = .pointer (some ⟨b, 0, none⟩)) (hy : a.eval y = wv c)
    (h : ∀ w', w'.heap[b]? = some (.cells (rowW c) 61 (0, 0)) → w.grownBy w' (some b) → wpList Tryz.prog ops Q rest (a.put op.dst undef) w') : wpList Tryz.prog ops Q (op :: rest) a w :=
  wpList_store_mid hgd 61 x y ho b 0 (rowW c) hx hy (fun j hj => ⟨by rw [Lib.cell_of_heap hb (0 + j), Nat.zero_add]; simp; exact hj, Lib.frozen_of_heap hb (0 + j)⟩) infoW9 (rowWL_one c)
    (by rw [setCells_box hb c]; exact h _ (heap_blk_same (Array.getElem?_eq_some_iff.1 hb).1) grown_blk)
theorem below_box {B b : Nat} {a w w' : World} (h : Below B a w) (hg : w.grownBy w' (some b)) (hB : B ≤ b) (hs : B ≤ w.heap.size) : Below B a w' :=
  h.trans ⟨hg.os, hg.tape, hg.output, hg.size, fun k hk => hg.block k (by omega) (fun e => by cases e; omega)⟩
theorem all_isOk {ns : List Tx} (h : ns.all isOk = true) {k : Nat} {b : Tx} (hb : ns[k]? = some b) : isOk b = true := List.all_eq_true.1 h b (List.mem_of_getElem? hb)
set_option maxRecDepth 100000 in
set_option maxHeartbeats 8000000 in
theorem wheelOf_any (s : ByteArray) (hs : s.size ≤ 1048576) (w : World) (hE : Env w) :
    Calls Tryz.prog 36 #[.string s] w (WhPost w (wordI s.data.toList)) := by
  obtain ⟨A, hA⟩ : ∃ A : ByteArray, (Lib.cut s.data.toList [58]).1 = A.data.toList := ⟨⟨(Lib.cut s.data.toList [58]).1.toArray⟩, rfl⟩
  obtain ⟨B, hB⟩ : ∃ A : ByteArray, (Lib.cut s.data.toList [58]).2.1 = A.data.toList := ⟨⟨(Lib.cut s.data.toList [58]).2.1.toArray⟩, rfl⟩
  obtain ⟨found, hF⟩ : ∃ b, (Lib.cut s.data.toList [58]).2.2 = b := ⟨_, rfl⟩
  have hcl := cut_len s.data.toList [58]
  rw [hA, hB, ← bsize, ← bsize, ← bsize] at hcl
  have hwI : wordI s.data.toList = if (cutC 44 B.data.toList).length = 8 then (if isOk A.data.toList = true then (if (cutC 44 B.data.toList).all isOk = true then some ⟨numI A.data.toList, radOf numI (cutC 44 B.data.toList)⟩ else none) else none) else none := by rw [wordI, hA, hB]
  have HE := Lib.hid hE
  have HE1 := Lib.hid (hE.below ((Below.refl w.heap.size w).alloc (Nat.le_refl _) (.cells (rowW Z9) 61)))
  have HC := Lib.hid (cut_any s A B found hA hB hF hs)
  have HWI := Lib.hid hwI
  have hsA : A.size ≤ 1048576 := by omega
  have hsB : B.size ≤ 1048576 := by omega
  clear hA hB hF hwI hE hcl
  rw [HWI.out]
  clear HWI
  obtain ⟨ns, hns⟩ : ∃ ns, cutC 44 B.data.toList = ns := ⟨_, rfl⟩
  have HNS := Lib.hid hns
  have HNM := Lib.hid (show ∀ b ∈ ns, b.length ≤ 1048576 from fun b hb => by have := cutC_mem (c := 44) B.data.toList b (by rw [hns]; exact hb); rw [← bsize] at this; omega)
  rw [hns]
  obtain ⟨N, hN⟩ : ∃ N, ns.length = N := ⟨_, rfl⟩
  have HNL := Lib.hid hN
  have HSP := Lib.hid (fun W hW => split_any B 44 hsB W hW (n := N) (by rw [hns]; exact hN))
  clear hns
  by_cases h8 : N = 8
  · rw [if_pos (by rw [hN]; exact h8)]
    subst h8
    clear hN
    cases hok : isOk A.data.toList with
    | false =>
      have HOK := Lib.hid hok
      clear hok
      rw [if_neg (by simp)]
      go_enter Tryz.func36, Tryz.ntmps36
      go_wp2_with fail
      refine (HC.out _ HE1.out).mono ?_
      rintro e w2 ⟨rfl, hb2⟩
      have hR2 : w2.heap[w.heap.size]? = some (.cells (rowW Z9) 61 (0, 0)) := (hb2.block _ (by simp)).trans (heap_alloc_new _ _)
      have HB2 := Lib.hid (((Below.refl w.heap.size w).alloc (Nat.le_refl _) (.cells (rowW Z9) 61)).trans (hb2.mono (by simp)))
      have HR2 := Lib.hid hR2
      clear hb2 hR2
      go_wp2_with fail
      refine (HSP.out _ (HE.out.below HB2.out)).mono ?_
      rintro e w3 ⟨g, rfl, ho, hl, hb3⟩
      have hR3 : w3.heap[w.heap.size]? = some (.cells (rowW Z9) 61 (0, 0)) := (hb3.block _ (Array.getElem?_eq_some_iff.1 HR2.out).1).trans HR2.out
      have HB3 := Lib.hid (HB2.out.trans (hb3.mono HB2.out.size))
      have HR3 := Lib.hid hR3
      clear ho hb3 hl hR3 HB2 HR2
      go_wp2_with fail
      refine (atoi_bad A hsA HOK.out _ (HE.out.below (HB3.out.alloc HB3.out.size _))).mono ?_
      rintro e w4 ⟨⟨v, T, N, rfl⟩, hb4⟩
      have HR4 := Lib.hid ((hb4.block _ (by have := (Array.getElem?_eq_some_iff.1 HR3.out).1; simp; omega)).trans (blk_alloc HR3.out (.cells (rowW Z9) 61)))
      obtain ⟨c0, c1, c2, c3, c4, c5, c6, c7, c8⟩ := box_cells ((hb4.block w3.heap.size (by simp)).trans (heap_alloc_new w3 (.cells (rowW Z9) 61)))
      have HB4 := Lib.hid ((HB3.out.alloc HB3.out.size (.cells (rowW Z9) 61)).trans (hb4.mono (HB3.out.alloc HB3.out.size _).size))
      clear hb4
      go_wp2_with ((with_reducible refine wpList_store_box (op := ⟨none, .store 61 (.tmp 2) (.tmp 34), _, _, _, _⟩) rfl _ _ rfl w.heap.size Z9 Z9 HR4.out rfl rfl ?_); (intro w5 hR5 hg5; have HB5 := Lib.hid (below_box HB4.out hg5 (Nat.le_refl _) HB4.out.size); obtain ⟨b0, b1, b2, b3, b4, b5, b6, b7, b8⟩ := box_cells hR5; clear hR5 hg5))
      refine bodyPost_ret ?_ rfl (WhPost.no (x := Z9) rfl rfl HB5.out)
      simp [results, Tryz.f36, go_sem, b0, b1, b2, b3, b4, b5, b6, b7, b8]
    | true =>
      have HOK := Lib.hid hok
      clear hok
      rw [if_pos rfl]
      obtain ⟨v, hv⟩ : ∃ v, numI A.data.toList = v := ⟨_, rfl⟩
      have HV := Lib.hid hv
      rw [hv]
      obtain ⟨r, hr⟩ : ∃ r, (if ns.all isOk = true then some (⟨v, radOf numI ns⟩ : W9) else none) = r := ⟨_, rfl⟩
      have HR := Lib.hid hr
      rw [hr]
      clear hv hr
      go_enter Tryz.func36, Tryz.ntmps36
      go_wp2_with fail
      refine (HC.out _ HE1.out).mono ?_
      rintro e w2 ⟨rfl, hb2⟩
      have hR2 : w2.heap[w.heap.size]? = some (.cells (rowW Z9) 61 (0, 0)) := (hb2.block _ (by simp)).trans (heap_alloc_new _ _)
      have HB2 := Lib.hid (((Below.refl w.heap.size w).alloc (Nat.le_refl _) (.cells (rowW Z9) 61)).trans (hb2.mono (by simp)))
      have HR2 := Lib.hid hR2
      clear hb2 hR2
      go_wp2_with fail
      refine (HSP.out _ (HE.out.below HB2.out)).mono ?_
      rintro e w3 ⟨g, rfl, ho, hl, hb3⟩
      have hR3 : w3.heap[w.heap.size]? = some (.cells (rowW Z9) 61 (0, 0)) := (hb3.block _ (Array.getElem?_eq_some_iff.1 HR2.out).1).trans HR2.out
      have HB3 := Lib.hid (HB2.out.trans (hb3.mono HB2.out.size))
      have HR3 := Lib.hid hR3
      have HO3 := Lib.hid ho
      have hlR : w.heap.size < w3.heap.size := (Array.getElem?_eq_some_iff.1 hR3).1
      clear ho hb3 hR3 HB2 HR2
      go_wp2_with fail
      refine (atoi_ok A hsA HOK.out _).mono ?_
      rw [HV.out]
      rintro e w4 ⟨rfl, hb4⟩
      have HR4 := Lib.hid ((hb4.block _ (by simp; omega)).trans (blk_alloc HR3.out (.cells (rowW Z9) 61)))
      have HK4 := Lib.hid ((hb4.block w3.heap.size (by simp)).trans (heap_alloc_new w3 (.cells (rowW Z9) 61)))
      have hcc : w4.cell? ⟨w3.heap.size, 0, none⟩ = some (.int .i64 0) := (Lib.cell_of_heap HK4.out 0).trans rfl
      have hfz : w4.frozen? ⟨w3.heap.size, 0, none⟩ = false := Lib.frozen_of_heap HK4.out 0
      have HB4 := Lib.hid ((HB3.out.alloc HB3.out.size (.cells (rowW Z9) 61)).trans (hb4.mono (HB3.out.alloc HB3.out.size _).size))
      have HQ4 := Lib.hid (((Below.refl w3.heap.size w3).alloc (Nat.le_refl _) (.cells (rowW Z9) 61)).trans (hb4.mono (by simp)))
      clear hb4
      go_wp2_with fail
      go_loopw [39] (fun s39 wr => ∃ (k : Nat) (c0 : C8), s39 = .int .i64 k ∧ k ≤ 8 ∧ Hid (RadAt numI ns c0 k) ∧ Hid (∀ j b, j < k → ns[j]? = some b → isOk b = true) ∧ Hid (wr.heap[w.heap.size]? = some (.cells (rowW Z9) 61 (0, 0))) ∧ Hid (wr.heap[w3.heap.size]? = some (.cells (rowW ⟨v, c0⟩) 61 (0, 0))) ∧ Hid (Below w.heap.size w wr) ∧ Hid (Below w3.heap.size w3 wr)) (fun s39 _ => 8 - (intOf s39).toNat)
      case atStart => exact ⟨0, C8.zero, rfl, by omega, fun m hm => by omega, fun j b hj => by omega, (box_other (by omega) _).trans HR4.out, setCell_blk' HK4.out 0 _, HB4.out.setCell (p := ⟨w3.heap.size, 0, none⟩) (by show w.heap.size ≤ w3.heap.size; omega) _, HQ4.out.setCell (p := ⟨w3.heap.size, 0, none⟩) (Nat.le_refl _) _⟩
      case round =>
        obtain ⟨k, c0, rfl, hk, hrad, hall, hR, hK, hB, hQ⟩ := hrel
        obtain ⟨wi, hwi⟩ : ∃ wi, wi = wr := ⟨_, rfl⟩
        subst hwi
        have hszi := hB.out.size
        have hlB : w3.heap.size < wi.heap.size := (Array.getElem?_eq_some_iff.1 hK.out).1
        by_cases hk8 : k < 8
        · have hki : (k : Int) < 8 := by omega
          obtain ⟨b, hb⟩ : ∃ b, ns[k]? = some b := ⟨_, List.getElem?_eq_getElem (by rw [HNL.out]; exact hk8)⟩
          obtain ⟨S, hS, hSd⟩ := bstr_of b
          have hcS : wi.cell? ⟨g, k, none⟩ = some (.string S) := by rw [← hS]; exact (hQ.out.cell (p := ⟨g, k, none⟩) hl).trans (HO3.out k b (by rw [HNS.out]; exact hb))
          have hSz : S.size ≤ 1048576 := by rw [bsize, hSd]; exact HNM.out b (List.mem_of_getElem? hb)
          have HSD := Lib.hid hSd
          have HB := Lib.hid hb
          cases hob : isOk b with
          | false =>
            have HOB := Lib.hid hob
            have HN := Lib.hid (show r = none by
              rw [← HR.out, if_neg]
              intro h
              have := all_isOk h hb
              rw [hob] at this; cases this)
            clear hS hSd hb hob
            go_wp2_with fail
            refine (atoi_bad S hSz (by rw [HSD.out]; exact HOB.out) _ (HE.out.below hB.out)).mono ?_
            rintro e w6 ⟨⟨v6, T, N, rfl⟩, hb6⟩
            have HR6 := Lib.hid ((hb6.block _ (by omega)).trans hR.out)
            obtain ⟨d0, d1, d2, d3, d4, d5, d6, d7, d8⟩ := box_cells ((hb6.block _ hlB).trans hK.out)
            have HB6 := Lib.hid (hB.out.trans (hb6.mono hszi))
            clear hb6 hcS
            go_wp2_with ((with_reducible refine wpList_store_box (op := ⟨none, .store 61 (.tmp 2) (.tmp 51), _, _, _, _⟩) rfl _ _ rfl w.heap.size Z9 ⟨v, c0⟩ HR6.out rfl rfl ?_); (intro w7 hR7 hg7; have HB7 := Lib.hid (below_box HB6.out hg7 (Nat.le_refl _) HB6.out.size); obtain ⟨b0, b1, b2, b3, b4, b5, b6, b7, b8⟩ := box_cells hR7; clear hR7 hg7))
            refine bodyPost_ret ?_ rfl (WhPost.no (x := ⟨v, c0⟩) HN.out rfl HB7.out)
            simp [results, Tryz.f36, go_sem, b0, b1, b2, b3, b4, b5, b6, b7, b8]
          | true =>
            have HOB := Lib.hid hob
            have HRV := Lib.hid (show numI b = numI (ns.getD k []) by rw [List.getD_eq_getElem?_getD, hb]; rfl)
            have HAL := Lib.hid (show ∀ j b', j < k + 1 → ns[j]? = some b' → isOk b' = true from fun j b' hj hj2 => by
              rcases Nat.lt_or_ge j k with h | h
              · exact hall.out j b' h hj2
              · obtain rfl : j = k := by omega
                obtain rfl := Option.some.inj (hb.symm.trans hj2)
                exact hob)
            clear hS hSd hb hob
            go_wp2_with fail
            refine (atoi_ok S hSz (by rw [HSD.out]; exact HOB.out) _).mono ?_
            rw [HSD.out]
            rintro e w6 ⟨rfl, hb6⟩
            generalize numI b = vb at HRV
            have HR6 := Lib.hid ((hb6.block _ (by omega)).trans hR.out)
            have HK6 := Lib.hid ((hb6.block _ hlB).trans hK.out)
            have hc6 : w6.cell? ⟨w3.heap.size, 1 + k, none⟩ = some (.int .i64 (c0.g k)) := (Lib.cell_of_heap HK6.out (1 + k)).trans (rowW_radK ⟨v, c0⟩ hk8)
            have hf6 : w6.frozen? ⟨w3.heap.size, 1 + k, none⟩ = false := Lib.frozen_of_heap HK6.out (1 + k)
            have HB6 := Lib.hid (hB.out.trans (hb6.mono hszi))
            have HQ6 := Lib.hid (hQ.out.trans (hb6.mono (by omega)))
            clear hb6 hcS
            go_wp2_with fail
            go_roundw
            case rel =>
              refine ⟨k + 1, c0.upd k vb, by go_num, by omega, hrad.out.step hk8 HRV.out, HAL.out, ?_, ?_, HB6.out.setCell (p := ⟨w3.heap.size, 1 + k, none⟩) (by show w.heap.size ≤ w3.heap.size; omega) _, HQ6.out.setCell (p := ⟨w3.heap.size, 1 + k, none⟩) (Nat.le_refl _) _⟩
              · show _ = _
                rw [← HR6.out]; unfold World.setCell; simp only [Array.getElem?_modify]; rw [if_neg (by omega)]
              · show _ = _
                rw [← rowW_updK ⟨v, c0⟩ hk8]; exact setCell_blk' HK6.out _ _
            case measure => simp [intOf]; omega
        · obtain rfl : k = 8 := by omega
          have HN := Lib.hid (show r = some ⟨v, c0⟩ by
            rw [← HR.out, if_pos, hrad.out.done]
            rw [List.all_eq_true]
            intro b hb
            obtain ⟨j, hj, rfl⟩ := List.getElem_of_mem hb
            exact hall.out j _ (by rw [HNL.out] at hj; exact hj) (List.getElem?_eq_getElem hj))
          obtain ⟨d0, d1, d2, d3, d4, d5, d6, d7, d8⟩ := box_cells hK.out
          go_wp2_with ((with_reducible refine wpList_store_box (op := ⟨none, .store 61 (.tmp 2) (.tmp 58), _, _, _, _⟩) rfl _ _ rfl w.heap.size Z9 ⟨v, c0⟩ hR.out rfl rfl ?_); (intro w7 hR7 hg7; have HB7 := Lib.hid (below_box hB.out hg7 (Nat.le_refl _) hB.out.size); obtain ⟨b0, b1, b2, b3, b4, b5, b6, b7, b8⟩ := box_cells hR7; clear hR7 hg7))
          refine bodyPost_ret (v := .tuple #[wv ⟨v, c0⟩, .bool true]) ?_ rfl ⟨⟨v, c0⟩, by rw [HN.out]; rfl, (fun y hy => by rw [HN.out] at hy; exact Option.some.inj hy), HB7.out⟩
          simp [results, Tryz.f36, go_sem, b0, b1, b2, b3, b4, b5, b6, b7, b8]
  · rw [if_neg (by rw [hN]; exact h8)]
    have hn8 : ((N : Int) == 8) = false := by rw [beq_eq_false_iff_ne]; omega
    clear h8 hN
    go_enter Tryz.func36, Tryz.ntmps36
    go_wp2_with fail
    refine (HC.out _ HE1.out).mono ?_
    rintro e w2 ⟨rfl, hb2⟩
    have hR2 : w2.heap[w.heap.size]? = some (.cells (rowW Z9) 61 (0, 0)) := (hb2.block _ (by simp)).trans (heap_alloc_new _ _)
    have HB2 := Lib.hid (((Below.refl w.heap.size w).alloc (Nat.le_refl _) (.cells (rowW Z9) 61)).trans (hb2.mono (by simp)))
    have HR2 := Lib.hid hR2
    clear hb2 hR2
    go_wp2_with fail
    refine (HSP.out _ (HE.out.below HB2.out)).mono ?_
    rintro e w3 ⟨g, rfl, ho, hl, hb3⟩
    have hR3 : w3.heap[w.heap.size]? = some (.cells (rowW Z9) 61 (0, 0)) := (hb3.block _ (Array.getElem?_eq_some_iff.1 HR2.out).1).trans HR2.out
    have HB3 := Lib.hid (HB2.out.trans (hb3.mono HB2.out.size))
    have hlt3 : w.heap.size < w3.heap.size := (Array.getElem?_eq_some_iff.1 hR3).1
    have hsz3 := HB3.out.size
    have HR4 := Lib.hid (show (w3.alloc (.cells (rowW Z9) 61)).heap[w.heap.size]? = some (.cells (rowW Z9) 61 (0, 0)) from blk_alloc hR3 _)
    clear ho hb3 hl hR3
    go_wp2_with ((with_reducible refine wpList_store_box (op := ⟨none, .store 61 (.tmp 2) (.tmp 26), _, _, _, _⟩) rfl _ _ rfl w.heap.size Z9 Z9 HR4.out rfl rfl ?_); (intro w5 hR5 hg5; have HR5 := Lib.hid hR5; have HB5 := Lib.hid (below_box (HB3.out.alloc hsz3 (.cells (rowW Z9) 61)) hg5 (Nat.le_refl _) (by simp; omega)); obtain ⟨b0, b1, b2, b3, b4, b5, b6, b7, b8⟩ := box_cells hR5; clear hR5 hg5))
    refine bodyPost_ret ?_ rfl (WhPost.no (x := Z9) rfl rfl HB5.out)
    simp [results, Tryz.f36, go_sem, b0, b1, b2, b3, b4, b5, b6, b7, b8]
end Go.Proofs.YthojdoiffkdikaaGreatDoor
