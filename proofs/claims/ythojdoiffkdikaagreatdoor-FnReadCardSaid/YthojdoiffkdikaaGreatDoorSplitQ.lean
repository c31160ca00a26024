/- The words of a text, one by one: strings.SplitSeq at one byte. -/
import Derived.Test.YthojdoiffkdikaaGreatDoorSeqBox
import Derived.Test.YthojdoiffkdikaaGreatDoorCutC
import Derived.Test.YthojdoiffkdikaaGreatDoorShelf
namespace Go.Proofs.YthojdoiffkdikaaGreatDoor
open Go.RowKit Go.Shelf Go.PlotT
attribute [local go_sem] Oper.semAt_some

def spWorld (w : World) (s sep : ByteArray) : World := ((w.alloc (.cells #[.string s] 9)).alloc (.cells #[.string sep] 9)).alloc (.cells #[.int .i64 0] 3)
theorem splitSeq_any (s sep : ByteArray) (w : World) :
    Calls Tryz.prog 57 #[.string s, .string sep, .int .i64 0] w fun e w' => e = .returned (.func (.func 84) #[] #[.pointer (some ⟨w.heap.size + 1, 0, none⟩), .pointer (some ⟨w.heap.size, 0, none⟩), .pointer (some ⟨w.heap.size + 1 + 1, 0, none⟩)]) ∧ w' = spWorld w s sep := by
  go_enter Tryz.func57, Tryz.ntmps57
  go_wp2
  go_ret
  exact ⟨rfl, rfl⟩
theorem splitSeqQ_any (s sep : ByteArray) (w : World) :
    Calls Tryz.prog 35 #[.string s, .string sep] w fun e w' => e = .returned (.func (.func 84) #[] #[.pointer (some ⟨w.heap.size + 1, 0, none⟩), .pointer (some ⟨w.heap.size, 0, none⟩), .pointer (some ⟨w.heap.size + 1 + 1, 0, none⟩)]) ∧ w' = spWorld w s sep := by
  go_enter Tryz.func35, Tryz.ntmps35
  go_wp2_with (go_at_call 57; go_must (refine (splitSeq_any _ _ _).mono ?_; rintro e w1 ⟨rfl, rfl⟩))
  go_ret
  exact ⟨rfl, rfl⟩
/-- What a round that goes on keeps: all below n₀, and the iterator's boxes. -/
def KpB (n₀ B1 B2 B3 : Nat) (W V : World) : Prop := Below n₀ W V ∧ V.heap[B1]? = W.heap[B1]? ∧ V.heap[B2]? = W.heap[B2]? ∧ V.heap[B3]? = W.heap[B3]?
theorem KpB.trans {n₀ B1 B2 B3 : Nat} {A B C : World} (h : KpB n₀ B1 B2 B3 A B) (k : KpB n₀ B1 B2 B3 B C) : KpB n₀ B1 B2 B3 A C := ⟨h.1.trans k.1, k.2.1.trans h.2.1, k.2.2.1.trans h.2.2.1, k.2.2.2.trans h.2.2.2⟩
def strLen (W : World) (B : Nat) : Nat := match W.cell? ⟨B, 0, none⟩ with | some (.string s) => s.size | _ => 0
/-- The boxes of the iterator, some of the text being left. -/
structure SpAt (W : World) (B1 B2 B3 : Nat) (c : UInt8) (r : ByteArray) : Prop where
  sep : W.heap[B1]? = some (.cells #[.string ⟨#[c]⟩] 9 (0, 0))
  rest : W.heap[B2]? = some (.cells #[.string r] 9 (0, 0))
  save : W.heap[B3]? = some (.cells #[.int .i64 0] 3 (0, 0))
theorem SpAt.kept {W V : World} {n₀ B1 B2 B3 : Nat} {c : UInt8} {r : ByteArray} (h : SpAt W B1 B2 B3 c r) (k : KpB n₀ B1 B2 B3 W V) : SpAt V B1 B2 B3 c r := ⟨k.2.1.trans h.sep, k.2.2.1.trans h.rest, k.2.2.2.trans h.save⟩
theorem box_set {W : World} {B : Nat} {x : Value} {T : TypeId} (h : W.heap[B]? = some (.cells #[x] T (0, 0))) (v : Value) : (W.setCell ⟨B, 0, none⟩ v).heap[B]? = some (.cells #[v] T (0, 0)) := by
  unfold World.setCell
  simp only [Array.getElem?_modify, if_pos, h]
  rfl
theorem box_other {W : World} {B B' : Nat} (hne : B' ≠ B) (v : Value) : (W.setCell ⟨B, 0, none⟩ v).heap[B']? = W.heap[B']? := by
  unfold World.setCell
  simp only [Array.getElem?_modify]
  rw [if_neg (fun e => hne e.symm)]
theorem SpAt.set {W : World} {B1 B2 B3 : Nat} {c : UInt8} {r : ByteArray} (h : SpAt W B1 B2 B3 c r) (h1 : B1 ≠ B2) (h3 : B3 ≠ B2) (r' : ByteArray) : SpAt (W.setCell ⟨B2, 0, none⟩ (.string r')) B1 B2 B3 c r' :=
  ⟨(box_other h1 _).trans h.sep, box_set h.rest _, (box_other h3 _).trans h.save⟩
theorem SpAt.facts {W : World} {B1 B2 B3 : Nat} {c : UInt8} {r : ByteArray} (h : SpAt W B1 B2 B3 c r) :
    W.cell? ⟨B1, 0, none⟩ = some (.string ⟨#[c]⟩) ∧ W.cell? ⟨B2, 0, none⟩ = some (.string r) ∧ W.cell? ⟨B3, 0, none⟩ = some (.int .i64 0) ∧ W.frozen? ⟨B2, 0, none⟩ = false :=
  ⟨Lib.cell_of_heap h.sep 0, Lib.cell_of_heap h.rest 0, Lib.cell_of_heap h.save 0, Lib.frozen_of_heap h.rest 0⟩
theorem SpAt.len {W : World} {B1 B2 B3 : Nat} {c : UInt8} {r : ByteArray} (h : SpAt W B1 B2 B3 c r) : strLen W B2 = r.size := by
  unfold strLen; rw [h.facts.2.1]
/-- A word of a text. -/
abbrev Wm (c : UInt8) (s : ByteArray) := { a : Wd // a ∈ cutC c s.data.toList }
theorem bstr_ext (s : ByteArray) (a b : Nat) : (Value.string (s.extract a b)) = bstr (s.extract a b).data.toList := (bstr_data _).symm
set_option maxRecDepth 100000 in
set_option maxHeartbeats 4000000 in
theorem split1_in (l n₀ B1 B2 B3 : Nat) (c : UInt8) (s : ByteArray) (hM2 : s.size ≤ 1048576) (hne : B1 ≠ B2 ∧ B3 ≠ B2 ∧ n₀ ≤ B2) (J Jx : List (Wm c s) → World → Prop)
    (hJ : ∀ pre X Y row, J pre X → X.grownBy Y row → (∀ r, row = some r → r = B2) → J pre Y)
    (hY : ∀ pre x V, J pre V → pre.length < s.size + 1 → YieldAt Fence.wide 0 Tryz.prog l #[bstr x.1] V fun e V' => (e = .returned (.bool true) ∧ J (pre ++ [x]) V' ∧ KpB n₀ B1 B2 B3 V V') ∨ (e = .returned (.bool false) ∧ Jx (pre ++ [x]) V'))
    (W : World) (hW : SpAt W B1 B2 B3 c s) (h0 : J [] W) :
    CallsIn Fence.wide 1 Tryz.prog 84 #[.func (.yield l) #[] #[], .pointer (some ⟨B1, 0, none⟩), .pointer (some ⟨B2, 0, none⟩), .pointer (some ⟨B3, 0, none⟩)] W fun e V => (∃ v, e = .returned v) ∧
      ((∃ xs : List (Wm c s), xs.map (·.1) = cutC c s.data.toList ∧ J xs V) ∨ ∃ pre, Jx pre V) := by
  refine callsIn_of_wp Tryz.func84 rfl trivial ?_ rfl
  simp only [Tryz.ntmps84, List.size_toArray, List.length_cons, List.length_nil, Nat.reduceAdd, Nat.reduceSub, Array.replicate_succ, Array.replicate_zero, List.push_toArray, List.append_toArray, List.nil_append, List.cons_append]
  have HJ := Lib.hid hJ
  have HY := Lib.hid hY
  have HW := Lib.hid hW
  obtain ⟨f1, f2, f3, f4⟩ := hW.facts
  have h11 : ((⟨#[c]⟩ : ByteArray).size : Int) = 1 := rfl
  have hls : (cutC c s.data.toList).length ≤ s.size + 1 := by have := cutC_length (c := c) s.data.toList; rw [← Lib.size_eq] at this; exact this
  clear hJ hY hW
  gi_wp2
  gi_loopw [7] (fun _ wr => ∃ (pre : List (Wm c s)) (r : ByteArray), Hid (pre.map (·.1) ++ cutC c r.data.toList = cutC c s.data.toList) ∧ r.size ≤ s.size ∧ pre.length ≤ s.size + 1 ∧ Hid (SpAt wr B1 B2 B3 c r) ∧ Hid (J pre wr)) (fun _ wr => strLen wr B2)
  case atStart => exact ⟨[], s, rfl, Nat.le_refl _, by simp, HW.out, h0⟩
  case round =>
    obtain ⟨pre, r, hcut, hr, hpre, hsp, hj⟩ := hrel
    obtain ⟨g1, g2, g3, g4⟩ := hsp.out.facts
    have HN := Lib.hid (congrArg List.length hcut.out)
    have hlr : r.data.toList.length = r.size := by rw [← Lib.size_eq]
    rcases Classical.em (Lib.indexByte r.data.toList c = -1) with hx | hx
    · have hrM : r.data.toList ∈ cutC c s.data.toList := by rw [← hcut.out, cutC_miss hx]; simp
      have hpl : pre.length < s.size + 1 := by
        have h := HN.out
        rw [cutC_miss hx, List.length_append, List.length_map] at h
        simp only [List.length_cons, List.length_nil] at h
        omega
      obtain ⟨fn, tmps, assign, body, hyy, hR⟩ := HY.out pre ⟨r.data.toList, hrM⟩ wr hj.out hpl
      dsimp only at hyy
      rw [bstr_data] at hyy
      have HRR := Lib.hid hR
      have HX := Lib.hid hx
      have HF := Lib.hid (show (pre ++ [(⟨r.data.toList, hrM⟩ : Wm c s)]).map (·.1) = cutC c s.data.toList by rw [List.map_append]; refine Eq.trans ?_ hcut.out; rw [cutC_miss hx]; rfl)
      clear hR hx
      gi_wp2_with (refine ⟨trivial, ?_⟩; gi_at_call 48; refine (callsIn_wide.2 (Tryz.strings_Index_one r c _)).mono ?_; rintro e w' ⟨rfl, hw'⟩; obtain rfl := hw'.symm; rw [HX.out])
      refine HRR.out.mono ?_
      rintro e V (⟨rfl, hJ2, hk⟩ | ⟨rfl, hJ2⟩)
      · gi_wp2
        go_end0
        exact ⟨⟨_, rfl⟩, .inl ⟨_, HF.out, hJ2⟩⟩
      · gi_wp2
        go_end0
        exact ⟨⟨_, rfl⟩, .inr ⟨_, hJ2⟩⟩
    · have hge := Lib.indexByte_ge r.data.toList c
      obtain ⟨i, hi⟩ : ∃ i : Nat, Lib.indexByte r.data.toList c = i := ⟨(Lib.indexByte r.data.toList c).toNat, by omega⟩
      have hil : i < r.size := by rw [← hlr]; exact indexByte_lt hi
      have hpl : pre.length < s.size + 1 := by
        have h := HN.out
        rw [cutC_hit hi, List.length_append, List.length_map] at h
        simp only [List.length_cons] at h
        omega
      have hel : (r.extract 0 i).data.toList = r.data.toList.take i := Lib.extract_from_zero r i
      have hlM : (r.extract 0 i).data.toList ∈ cutC c s.data.toList := by rw [← hcut.out, cutC_hit hi, hel]; simp
      have herest : (r.extract (i + 1) r.size).data.toList = r.data.toList.drop (i + 1) := Lib.extract_to_end r (i + 1)
      have HRS := Lib.hid (show (r.extract (i + 1) r.size).size = r.size - (i + 1) by rw [Lib.size_eq, herest, List.length_drop, hlr])
      obtain ⟨fn, tmps, assign, body, hyy, hR⟩ := HY.out pre ⟨(r.extract 0 i).data.toList, hlM⟩ wr hj.out hpl
      dsimp only at hyy
      rw [bstr_data] at hyy
      have HRR := Lib.hid hR
      have HX := Lib.hid hi
      have HF := Lib.hid (show (pre ++ [(⟨(r.extract 0 i).data.toList, hlM⟩ : Wm c s)]).map (·.1) ++ cutC c (r.extract (i + 1) r.size).data.toList = cutC c s.data.toList by
        refine Eq.trans ?_ hcut.out
        rw [List.map_append, cutC_hit hi, List.append_assoc, herest]
        show _ ++ ([(r.extract 0 i).data.toList] ++ _) = _
        rw [hel]; rfl)
      have hi0 : ¬ (i : Int) < 0 := by omega
      have hi63 : i ≤ 1048576 := by omega
      clear hR hi hx hge
      gi_wp2_with (refine ⟨trivial, ?_⟩; gi_at_call 48; refine (callsIn_wide.2 (Tryz.strings_Index_one r c _)).mono ?_; rintro e w' ⟨rfl, hw'⟩; obtain rfl := hw'.symm; rw [HX.out])
      refine HRR.out.mono ?_
      rintro e V (⟨rfl, hJ2, hk⟩ | ⟨rfl, hJ2⟩)
      · have hsp2 := hsp.out.kept hk
        obtain ⟨k1, k2, k3, k4⟩ := hsp2.facts
        gi_wp2
        go_roundw
        case rel => exact ⟨_, r.extract (i + 1) r.size, HF.out, by rw [HRS.out]; omega, by simp; omega, hsp2.set hne.1 hne.2.1 _, HJ.out _ _ _ _ hJ2 (grownBy_setCell' V B2 _) (fun k e => by cases e; rfl)⟩
        case measure => rw [(hsp2.set hne.1 hne.2.1 _).len, hsp.out.len, HRS.out]; omega
      · gi_wp2
        refine bodyPost_ret (results_none rfl _ _ _) rfl ?_
        exact ⟨⟨_, rfl⟩, .inr ⟨_, hJ2⟩⟩
/-- The contract. -/
theorem splitSeq_box (n₀ B1 B2 B3 : Nat) (c : UInt8) (s : ByteArray) (hM2 : s.size ≤ 1048576) (hne : B1 ≠ B2 ∧ B3 ≠ B2 ∧ n₀ ≤ B2) (w : World) (hw : SpAt w B1 B2 B3 c s) (hlt : B1 < w.heap.size ∧ B2 < w.heap.size ∧ B3 < w.heap.size) :
    SeqBox Fence.wide 1 Tryz.prog 84 #[.pointer (some ⟨B1, 0, none⟩), .pointer (some ⟨B2, 0, none⟩), .pointer (some ⟨B3, 0, none⟩)] (fun x : Wm c s => #[bstr x.1]) B2 (KpB n₀ B1 B2 B3) (fun xs => xs.map (·.1) = cutC c s.data.toList) (s.size + 1) w := fun l J Jx W hW hJ hY h0 => by
  obtain ⟨_, _, _, _, h5⟩ := hW
  exact split1_in l n₀ B1 B2 B3 c s hM2 hne J Jx hJ hY W ⟨(h5 _ hlt.1).trans hw.sep, (h5 _ hlt.2.1).trans hw.rest, (h5 _ hlt.2.2).trans hw.save⟩ h0
end Go.Proofs.YthojdoiffkdikaaGreatDoor
