/- A replacer of bytes: what it returns of a text. -/
import Derived.Test.YthojdoiffkdikaaGreatDoorPlotE
import Derived.BigQuiet
namespace Go.Proofs.YthojdoiffkdikaaGreatDoor
open Go.RowKit Go.PlotT

/-- Bytes that lie in a row of the call's own. -/
def BufIs (w : World) (gb : Nat) (l : Wd) : Prop := ∀ j x, l[j]? = some x → w.cell? ⟨gb, j, none⟩ = some (.int .u8 x.toNat) ∧ w.frozen? ⟨gb, j, none⟩ = false
/-- The table of a replacer that exchanges east and west. -/
def TabIs (w : World) (b : Nat) : Prop := ∀ c : UInt8, w.cell? ⟨b, c.toNat, none⟩ = some (.int .u8 (swB c).toNat)
/-- The bytes when i of them have been exchanged. -/
def swBt (l : Wd) (i : Nat) : Wd := (l.take i).map swB ++ l.drop i
theorem swBt_len (l : Wd) (i : Nat) : (swBt l i).length = l.length := by simp [swBt]; omega
theorem swBt_get {l : Wd} {i : Nat} {x : UInt8} (hx : l[i]? = some x) : (swBt l i)[i]? = some x := by
  have hi : i < l.length := (List.getElem?_eq_some_iff.1 hx).1
  rw [swBt, List.getElem?_append_right (by simp; omega)]
  simp only [List.length_map, List.length_take]
  rw [List.getElem?_drop, show i + (i - min i l.length) = i by omega, hx]
theorem swBt_next {l : Wd} {i : Nat} {x : UInt8} (hx : l[i]? = some x) : swBt l (i + 1) = (swBt l i).set i (swB x) := by
  obtain ⟨hi, e⟩ := List.getElem?_eq_some_iff.1 hx
  unfold swBt
  rw [List.set_append_right _ _ (by simp; omega)]
  simp only [List.length_map, List.length_take]
  rw [show i - min i l.length = 0 by omega, List.drop_eq_getElem_cons hi, e, List.set_cons_zero, List.take_add_one, hx]
  simp
theorem BufIs.store {w : World} {gb : Nat} {l : Wd} (h : BufIs w gb l) {i : Nat} (hi : i < l.length) (x : UInt8) : BufIs (w.setCell ⟨gb, i, none⟩ (.int .u8 x.toNat)) gb (l.set i x) := by
  intro j y hy
  rw [World.frozen?_setCell]
  by_cases e : i = j
  · subst e
    rw [List.getElem?_set_self hi] at hy
    obtain rfl := Option.some.inj hy
    obtain ⟨u, hu⟩ : ∃ u, l[i]? = some u := ⟨_, List.getElem?_eq_getElem hi⟩
    exact ⟨World.cell?_setCell_same _ _ _ (h i u hu).1, (h i u hu).2⟩
  · rw [List.getElem?_set_ne e] at hy
    refine ⟨?_, (h j y hy).2⟩
    rw [World.cell?_setCell_other _ _ _ _ (fun e2 => e (by injection e2))]
    exact (h j y hy).1
theorem bytes_of (s : ByteArray) (w : World) : ∃ (cap : Nat) (w' : World), (convert 9 22 (.string s)).run Tryz.prog w = .ok (.slice (some ⟨w.heap.size, 0, none⟩) s.size cap) w' ∧ Below w.heap.size w w' ∧ BufIs w' w.heap.size s.data.toList ∧ s.size ≤ cap := by
  refine ⟨_, _, run_bytes_of_string w 9 22 5 s Tryz.underlying9 Tryz.underlying22 Tryz.underlying5, ?_, ?_, ?_⟩
  · exact (Below.refl _ w).drew.alloc (Nat.le_refl _) _
  · intro j x hx
    obtain ⟨hj, e⟩ := List.getElem?_eq_some_iff.1 hx
    have hj2 : j < s.data.size := by simpa using hj
    have hh : (w.drew.alloc (.cells (bytesRow s (grownCap w s.size 0 5)) 5 ((bytesRow s (grownCap w s.size 0 5)).size, (bytesRow s (grownCap w s.size 0 5)).size + 1))).heap[w.heap.size]? = some (.cells (bytesRow s (grownCap w s.size 0 5)) 5 ((bytesRow s (grownCap w s.size 0 5)).size, (bytesRow s (grownCap w s.size 0 5)).size + 1)) := heap_alloc_new w.drew _
    have hb := bytesRow_at s (grownCap w s.size 0 5) j hj2
    constructor
    · unfold World.cell?
      rw [hh]
      show (bytesRow s _)[j]? = _
      rw [hb, ← e]; rfl
    · unfold World.frozen?
      rw [hh]
      have := (Array.getElem?_eq_some_iff.1 hb).1
      simp; omega
  · exact grownCap_ge w s.size 0 _
set_option maxRecDepth 100000 in
set_option maxHeartbeats 2000000 in
theorem byteReplace_any (b : Nat) (s : ByteArray) (hs : s.size ≤ 400) (w : World) (hT : TabIs w b) (hb : b < w.heap.size) :
    Calls Tryz.prog 234 #[.pointer (some ⟨b, 0, none⟩), .string s] w fun e w' => e = .returned (.string ⟨(s.data.toList.map swB).toArray⟩) ∧ Below w.heap.size w w' := by
  have HT := Lib.hid hT
  clear hT
  have hn0 : ∀ w : World, (binOp BinOp.eql 22 (.slice none 0 0) (.slice none 0 0)).run Tryz.prog w = .ok (.bool true) w := fun _ => by kernel_rfl
  have hn1 : ∀ (a : Addr) (n c : Nat) (w : World), (binOp BinOp.eql 22 (.slice (some a) n c) (.slice none 0 0)).run Tryz.prog w = .ok (.bool false) w := fun _ _ _ _ => by kernel_rfl
  go_enter Tryz.func234, Tryz.ntmps234
  go_wp2_with fail
  go_loopw [5, 6] (fun s5 s6 wr => ∃ i : Nat, s6 = .int .i64 i ∧ i ≤ s.size ∧ Hid (Below w.heap.size w wr) ∧ Hid ((s5 = .slice none 0 0 ∧ swBt s.data.toList i = s.data.toList) ∨ (∃ gb cap, s5 = .slice (some ⟨gb, 0, none⟩) s.size cap ∧ w.heap.size ≤ gb ∧ BufIs wr gb (swBt s.data.toList i)))) (fun _ s6 _ => s.size - (intOf s6).toNat)
  case atStart => exact ⟨0, rfl, by omega, Below.refl _ _, Or.inl ⟨rfl, by simp [swBt]⟩⟩
  case round =>
    obtain ⟨i, rfl, hi, hbel, hbuf⟩ := hrel
    have hsz := hbel.out.size
    by_cases hlt : i < s.size
    · have hx : s.data.toList[i]? = some (s[i]'hlt) := by rw [List.getElem?_eq_getElem (by rw [← Lib.size_eq]; exact hlt)]; rfl
      obtain ⟨c, hc⟩ : ∃ c, s[i]'hlt = c := ⟨_, rfl⟩
      rw [hc] at hx
      have HX := Lib.hid hx
      have HC := Lib.hid hc
      have hcell : wr.cell? ⟨b, (s[i]'hlt).toNat, none⟩ = some (.int .u8 (swB c).toNat) := by rw [hc, hbel.out.cell (p := ⟨b, c.toNat, none⟩) hb]; exact HT.out c
      have hlt256 := (s[i]'hlt).toNat_lt
      have HN := Lib.hid (swBt_next hx)
      have HG := Lib.hid (swBt_get hx)
      clear hx
      by_cases he : swB c = c
      · have h1 : (((swB c).toNat : Int) != ((s[i]'hlt).toNat : Int)) = false := by rw [hc, he]; simp
        have HS := Lib.hid (show swBt s.data.toList (i + 1) = swBt s.data.toList i by
          rw [HN.out, he]
          obtain ⟨h, e⟩ := List.getElem?_eq_some_iff.1 HG.out
          rw [← e]; exact List.set_getElem_self h)
        clear hc he
        rcases hbuf.out with ⟨h5, h6⟩ | ⟨gb, cap, h5, h6, h7⟩
        · subst h5
          have H6 := Lib.hid h6
          clear h6 hbuf
          go_wp2_with fail
          go_roundw
          case rel => exact ⟨i + 1, by go_num, by omega, hbel.out, Or.inl ⟨rfl, HS.out.trans H6.out⟩⟩
          case measure => simp [intOf]; omega
        · subst h5
          have H7 := Lib.hid h7
          clear h7 hbuf
          go_wp2_with fail
          go_roundw
          case rel => exact ⟨i + 1, by go_num, by omega, hbel.out, Or.inr ⟨gb, cap, rfl, h6, by rw [HS.out]; exact H7.out⟩⟩
          case measure => simp [intOf]; omega
      · have h1 : (((swB c).toNat : Int) != ((s[i]'hlt).toNat : Int)) = true := by
          rw [hc, bne_iff_ne]
          intro e
          exact he (UInt8.toNat_inj.1 (by omega))
        clear he
        rcases hbuf.out with ⟨h5, h6⟩ | ⟨gb, cap, h5, h6, h7⟩
        · subst h5
          obtain ⟨cap, wz, hcv, hbz, hbi, hcap⟩ := bytes_of s wr
          have hci := hbi i c (by rw [← h6]; exact HG.out)
          have hk1 := hci.1
          have hk2 := hci.2
          have hcell2 : wz.cell? ⟨b, (s[i]'hlt).toNat, none⟩ = some (.int .u8 (swB c).toNat) := by rw [hbz.cell (p := ⟨b, (s[i]'hlt).toNat, none⟩) (by show b < _; omega)]; exact hcell
          have HB := Lib.hid (show BufIs (wz.setCell ⟨wr.heap.size, i, none⟩ (.int .u8 (swB c).toNat)) wr.heap.size (swBt s.data.toList (i + 1)) by
            rw [HN.out]
            refine BufIs.store ?_ (by rw [swBt_len, ← Lib.size_eq]; exact hlt) _
            rw [h6]; exact hbi)
          have HBZ := Lib.hid (hbel.out.trans (hbz.mono hsz))
          clear hc h6 hbuf hbi hci hbz
          go_wp2_with fail
          go_roundw
          case rel => exact ⟨i + 1, by go_num, by omega, HBZ.out.setCell (p := ⟨wr.heap.size, i, none⟩) hsz _, Or.inr ⟨wr.heap.size, cap, rfl, hsz, HB.out⟩⟩
          case measure => simp [intOf]; omega
        · subst h5
          have hci := h7 i c HG.out
          have hk1 := hci.1
          have hk2 := hci.2
          have HB := Lib.hid (show BufIs (wr.setCell ⟨gb, i, none⟩ (.int .u8 (swB c).toNat)) gb (swBt s.data.toList (i + 1)) by
            rw [HN.out]
            exact BufIs.store h7 (by rw [swBt_len, ← Lib.size_eq]; exact hlt) _)
          clear hc h7 hbuf hci
          go_wp2_with fail
          go_roundw
          case rel => exact ⟨i + 1, by go_num, by omega, hbel.out.setCell (p := ⟨gb, i, none⟩) h6 _, Or.inr ⟨gb, cap, rfl, h6, HB.out⟩⟩
          case measure => simp [intOf]; omega
    · obtain rfl : i = s.size := by omega
      have hend : swBt s.data.toList s.size = s.data.toList.map swB := by rw [swBt, Lib.size_eq, List.take_length, List.drop_length, List.append_nil]
      have HE := Lib.hid hend
      clear hend
      rcases hbuf.out with ⟨h5, h6⟩ | ⟨gb, cap, h5, h6, h7⟩
      · subst h5
        have H6 := Lib.hid h6
        clear h6 hbuf
        go_wp2_with fail
        go_returns
        refine ⟨?_, hbel.out⟩
        rw [← HE.out, H6.out, Lib.mk_data]; rfl
      · subst h5
        have hadd : ∀ j, (⟨gb, 0, none⟩ : Addr).add j = ⟨gb, j, none⟩ := fun j => by unfold Addr.add; split <;> simp_all
        have hcv := run_convert_bytes_back (P := Tryz.prog) wr 22 9 5 ⟨gb, 0, none⟩ cap (s.data.toList.map swB) Tryz.underlying22 Tryz.underlying5 Tryz.underlying9 (fun j hj => by
          rw [hadd]
          exact (h7 j _ (by rw [HE.out, List.getElem?_eq_getElem hj])).1)
        rw [List.length_map, ← Lib.size_eq] at hcv
        clear h7 hbuf hadd
        go_wp2_with fail
        go_returns
        exact ⟨rfl, hbel.out⟩
end Go.Proofs.YthojdoiffkdikaaGreatDoor
