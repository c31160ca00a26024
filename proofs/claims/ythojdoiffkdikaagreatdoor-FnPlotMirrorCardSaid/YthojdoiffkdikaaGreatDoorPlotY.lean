/- Draws of plotter programs: words, programs. -/
import Derived.Test.YthojdoiffkdikaaGreatDoorPlotR
import Derived.BigQuiet
namespace Go.Proofs.YthojdoiffkdikaaGreatDoor
open Go.RowKit Go.PlotT

def Words6 (W : World) (g : Nat) (v : Value) (p : Int) (m k : Nat) (e : Ending) (w' : World) : Prop := ∃ (X : ByteArray) (p' : Int), e = .returned (.string X) ∧ X.size ≤ m ∧ p ≤ p' ∧ p' ≤ p + k ∧ Rd6 W w' g v p'
theorem Drw.grow {w0 W W' : World} {B g : Nat} {a : Option Addr} {len cap : Nat} {p : Int} (h : Drw w0 W B g a len cap p) (hb : Below W.heap.size W W') : Drw w0 W' B g a len cap p := h.next ((Rd6.refl h.rd).grow hb) (Int.le_refl _)
theorem sz1 (c : UInt8) : (⟨#[c]⟩ : ByteArray).size = 1 := rfl
theorem sz2 (c d : UInt8) : (⟨#[c, d]⟩ : ByteArray).size = 2 := rfl
def nine : List Wd := [[117], [100], [110], [101], [115], [119], [101], [110], [116]]
set_option maxRecDepth 100000 in
set_option maxHeartbeats 2000000 in
theorem words6_0 {w0 W : World} {B g : Nat} {a : Option Addr} {len cap : Nat} {p : Int} (h : Drw w0 W B g a len cap p) (hp : p ≤ 12000) :
    Calls Tryz.prog 47 #[.pointer (some ⟨g, 0, none⟩), .int .i64 0] W (Words6 W g (.slice a len cap) p 10 6) := by
  have HD := Lib.hid h
  have hp0 := h.hp
  clear h
  go_enter Tryz.func47, Tryz.ntmps47
  go_wp2_with (go_at_call 45; go_must (refine (pick6 HD.out 5 (by omega) (by omega) (by omega)).mono ?_; rintro e w1 ⟨k, rfl, hk0, hk1, hr⟩; obtain ⟨q, rfl⟩ := Int.eq_ofNat_of_zero_le hk0; have HR := Lib.hid hr; have HD1 := Lib.hid (HD.out.next hr (by omega)); clear hr))
  go_loopw [5, 7] (fun s5 s7 wr => ∃ (i : Nat) (O : ByteArray) (p' : Int), s5 = .string O ∧ s7 = .int .i64 i ∧ i ≤ q + 1 ∧ O.size ≤ i * 2 ∧ p + 1 ≤ p' ∧ p' ≤ p + 1 + i * 1 ∧ Hid (Rd6 W wr g (.slice a len cap) p') ∧ Hid (Drw w0 wr B g a len cap p')) (fun _ s7 _ => q + 1 - (intOf s7).toNat)
  case atStart => exact ⟨0, ⟨#[]⟩, p + 1, rfl, rfl, by omega, (by show 0 ≤ _; omega), by omega, by omega, HR.out, HD1.out⟩
  case round =>
    obtain ⟨i, O, p', rfl, rfl, hi, hO, hp1, hp2, hrd, hdr⟩ := hrel
    by_cases hlt : i < q + 1
    · have hOs : O.size ≤ 10 := by omega
      have hOi : (O.size : Int) ≤ 10 := by omega
      have hgl : ∀ wx : World, wx.heap.size = wr.heap.size → ¬ wx.heap.size = g := fun wx e h => by have := hdr.out.lt; omega
      have HGL := Lib.hid hgl
      clear hgl
      go_wp2_with (go_at_call 46; go_must (refine (of6 (Drw.next hdr.out (Rd6.below (Rd6.refl hdr.out.rd) ((Below.refl _ wr).alloc (Nat.le_refl _) _) hdr.out.lt (Nat.le_refl _)) (Int.le_refl _)) wr.heap.size 1 nine (lies_lit wr _ nine rfl) (HGL.out wr rfl) (by decide) (by decide) (by omega) (by decide)).mono ?_; rintro e w2 ⟨X, rfl, hX, hr⟩; have hr2 := (Rd6.below (Rd6.refl hdr.out.rd) ((Below.refl _ wr).alloc (Nat.le_refl _) _) hdr.out.lt (Nat.le_refl _)).trans hr; have HR2 := Lib.hid (hrd.out.trans hr2); have HD2 := Lib.hid (hdr.out.next hr2 (by omega)); clear hr hr2))
      all_goals
        go_roundw
        case rel => exact ⟨i + 1, _, p' + 1, rfl, by go_num, by omega, (by first | (refine Nat.le_trans (Nat.le_of_eq (?_ : _ = O.size + X.size)) ?_; (focus (simp only [ByteArray.size_append] <;> rfl)); (focus omega)) | (refine Nat.le_trans (Nat.le_of_eq (?_ : _ = O.size + 1 + X.size)) ?_; (focus (simp only [ByteArray.size_append] <;> rfl)); (focus omega))), by omega, by omega, HR2.out, HD2.out⟩
        case measure => simp [intOf]; omega
    · go_wp2
      go_returns
      exact ⟨O, p', rfl, by omega, by omega, by omega, hrd.out⟩
set_option maxRecDepth 100000 in
set_option maxHeartbeats 4000000 in
theorem words6_1 {w0 W : World} {B g : Nat} {a : Option Addr} {len cap : Nat} {p : Int} (h : Drw w0 W B g a len cap p) (hp : p ≤ 11000) :
    Calls Tryz.prog 47 #[.pointer (some ⟨g, 0, none⟩), .int .i64 1] W (Words6 W g (.slice a len cap) p 90 41) := by
  have HD := Lib.hid h
  have hp0 := h.hp
  clear h
  go_enter Tryz.func47, Tryz.ntmps47
  go_wp2_with (go_at_call 45; go_must (refine (pick6 HD.out 5 (by omega) (by omega) (by omega)).mono ?_; rintro e w1 ⟨k, rfl, hk0, hk1, hr⟩; obtain ⟨q, rfl⟩ := Int.eq_ofNat_of_zero_le hk0; have HR := Lib.hid hr; have HD1 := Lib.hid (HD.out.next hr (by omega)); clear hr))
  go_loopw [5, 7] (fun s5 s7 wr => ∃ (i : Nat) (O : ByteArray) (p' : Int), s5 = .string O ∧ s7 = .int .i64 i ∧ i ≤ q + 1 ∧ O.size ≤ i * 18 ∧ p + 1 ≤ p' ∧ p' ≤ p + 1 + i * 8 ∧ Hid (Rd6 W wr g (.slice a len cap) p') ∧ Hid (Drw w0 wr B g a len cap p')) (fun _ s7 _ => q + 1 - (intOf s7).toNat)
  case atStart => exact ⟨0, ⟨#[]⟩, p + 1, rfl, rfl, by omega, (by show 0 ≤ _; omega), by omega, by omega, HR.out, HD1.out⟩
  case round =>
    obtain ⟨i, O, p', rfl, rfl, hi, hO, hp1, hp2, hrd, hdr⟩ := hrel
    by_cases hlt : i < q + 1
    · have hOs : O.size ≤ 500 := by omega
      have hOi : (O.size : Int) ≤ 500 := by omega
      go_wp2_with (first
        | (go_at_call 45; go_must (refine (pick6 hdr.out 4 (by omega) (by omega) (by omega)).mono ?_; rintro e w2 ⟨k2, rfl, hk20, hk21, hr⟩; have hrd := Lib.hid (hrd.out.trans hr); have hdr := Lib.hid (hdr.out.next hr (by omega)); clear hr))
        | (go_at_call 46; go_must (refine (of6 (hdr.out.grow ((Below.refl _ _).alloc (Nat.le_refl _) _)) _ 1 nine (lies_lit _ _ nine rfl) (Nat.ne_of_gt hdr.out.lt) (by decide) (by decide) (by omega) (by decide)).mono ?_; rintro e w3 ⟨X, rfl, hX, hr⟩; have hr2 := ((Rd6.refl hdr.out.rd).grow ((Below.refl _ _).alloc (Nat.le_refl _) _)).trans hr; have hrd := Lib.hid (hrd.out.trans hr2); have hdr := Lib.hid (hdr.out.next hr2 (by omega)); clear hr hr2))
        | (go_at_call 71; go_must (refine (l6Dec_little _ (by omega) (by omega) _).mono ?_; rintro e w3 ⟨X, rfl, hX, hb⟩; have hrd := Lib.hid (hrd.out.grow hb); have hdr := Lib.hid (hdr.out.grow hb); clear hb))
        | (go_at_call 47; go_must (refine (words6_0 hdr.out (by omega)).mono ?_; rintro e w4 ⟨Y, p4, rfl, hY, hp4, hp5, hr⟩; have hrd := Lib.hid (hrd.out.trans hr); have hdr := Lib.hid (hdr.out.next hr hp4); clear hr)))
      all_goals
        go_roundw
        case rel => exact ⟨i + 1, _, _, rfl, by go_num, by omega, (by first | (refine Nat.le_trans (Nat.le_of_eq (?_ : _ = O.size + X.size)) ?_; (focus (simp only [ByteArray.size_append] <;> rfl)); (focus omega)) | (refine Nat.le_trans (Nat.le_of_eq (?_ : _ = O.size + 1 + X.size)) ?_; (focus (simp only [ByteArray.size_append] <;> rfl)); (focus omega)) | (refine Nat.le_trans (Nat.le_of_eq (?_ : _ = O.size + 1 + X.size + 1 + Y.size + 2)) ?_; (focus (simp only [ByteArray.size_append] <;> rfl)); (focus omega)) | (refine Nat.le_trans (Nat.le_of_eq (?_ : _ = O.size + 1 + 1 + X.size + 1 + Y.size + 2)) ?_; (focus (simp only [ByteArray.size_append] <;> rfl)); (focus omega))), by omega, by omega, hrd.out, hdr.out⟩
        case measure => simp [intOf]; omega
    · go_wp2
      go_returns
      exact ⟨O, p', rfl, by omega, by omega, by omega, hrd.out⟩
set_option maxRecDepth 100000 in
set_option maxHeartbeats 4000000 in
theorem words6_2 {w0 W : World} {B g : Nat} {a : Option Addr} {len cap : Nat} {p : Int} (h : Drw w0 W B g a len cap p) (hp : p ≤ 10000) :
    Calls Tryz.prog 47 #[.pointer (some ⟨g, 0, none⟩), .int .i64 2] W (Words6 W g (.slice a len cap) p 490 216) := by
  have HD := Lib.hid h
  have hp0 := h.hp
  clear h
  go_enter Tryz.func47, Tryz.ntmps47
  go_wp2_with (go_at_call 45; go_must (refine (pick6 HD.out 5 (by omega) (by omega) (by omega)).mono ?_; rintro e w1 ⟨k, rfl, hk0, hk1, hr⟩; obtain ⟨q, rfl⟩ := Int.eq_ofNat_of_zero_le hk0; have HR := Lib.hid hr; have HD1 := Lib.hid (HD.out.next hr (by omega)); clear hr))
  go_loopw [5, 7] (fun s5 s7 wr => ∃ (i : Nat) (O : ByteArray) (p' : Int), s5 = .string O ∧ s7 = .int .i64 i ∧ i ≤ q + 1 ∧ O.size ≤ i * 98 ∧ p + 1 ≤ p' ∧ p' ≤ p + 1 + i * 43 ∧ Hid (Rd6 W wr g (.slice a len cap) p') ∧ Hid (Drw w0 wr B g a len cap p')) (fun _ s7 _ => q + 1 - (intOf s7).toNat)
  case atStart => exact ⟨0, ⟨#[]⟩, p + 1, rfl, rfl, by omega, (by show 0 ≤ _; omega), by omega, by omega, HR.out, HD1.out⟩
  case round =>
    obtain ⟨i, O, p', rfl, rfl, hi, hO, hp1, hp2, hrd, hdr⟩ := hrel
    by_cases hlt : i < q + 1
    · have hOs : O.size ≤ 500 := by omega
      have hOi : (O.size : Int) ≤ 500 := by omega
      go_wp2_with (first
        | (go_at_call 45; go_must (refine (pick6 hdr.out 4 (by omega) (by omega) (by omega)).mono ?_; rintro e w2 ⟨k2, rfl, hk20, hk21, hr⟩; have hrd := Lib.hid (hrd.out.trans hr); have hdr := Lib.hid (hdr.out.next hr (by omega)); clear hr))
        | (go_at_call 46; go_must (refine (of6 (hdr.out.grow ((Below.refl _ _).alloc (Nat.le_refl _) _)) _ 1 nine (lies_lit _ _ nine rfl) (Nat.ne_of_gt hdr.out.lt) (by decide) (by decide) (by omega) (by decide)).mono ?_; rintro e w3 ⟨X, rfl, hX, hr⟩; have hr2 := ((Rd6.refl hdr.out.rd).grow ((Below.refl _ _).alloc (Nat.le_refl _) _)).trans hr; have hrd := Lib.hid (hrd.out.trans hr2); have hdr := Lib.hid (hdr.out.next hr2 (by omega)); clear hr hr2))
        | (go_at_call 71; go_must (refine (l6Dec_little _ (by omega) (by omega) _).mono ?_; rintro e w3 ⟨X, rfl, hX, hb⟩; have hrd := Lib.hid (hrd.out.grow hb); have hdr := Lib.hid (hdr.out.grow hb); clear hb))
        | (go_at_call 47; go_must (refine (words6_1 hdr.out (by omega)).mono ?_; rintro e w4 ⟨Y, p4, rfl, hY, hp4, hp5, hr⟩; have hrd := Lib.hid (hrd.out.trans hr); have hdr := Lib.hid (hdr.out.next hr hp4); clear hr)))
      all_goals
        go_roundw
        case rel => exact ⟨i + 1, _, _, rfl, by go_num, by omega, (by first | (refine Nat.le_trans (Nat.le_of_eq (?_ : _ = O.size + X.size)) ?_; (focus (simp only [ByteArray.size_append] <;> rfl)); (focus omega)) | (refine Nat.le_trans (Nat.le_of_eq (?_ : _ = O.size + 1 + X.size)) ?_; (focus (simp only [ByteArray.size_append] <;> rfl)); (focus omega)) | (refine Nat.le_trans (Nat.le_of_eq (?_ : _ = O.size + 1 + X.size + 1 + Y.size + 2)) ?_; (focus (simp only [ByteArray.size_append] <;> rfl)); (focus omega)) | (refine Nat.le_trans (Nat.le_of_eq (?_ : _ = O.size + 1 + 1 + X.size + 1 + Y.size + 2)) ?_; (focus (simp only [ByteArray.size_append] <;> rfl)); (focus omega))), by omega, by omega, hrd.out, hdr.out⟩
        case measure => simp [intOf]; omega
    · go_wp2
      go_returns
      exact ⟨O, p', rfl, by omega, by omega, by omega, hrd.out⟩

end Go.Proofs.YthojdoiffkdikaaGreatDoor
