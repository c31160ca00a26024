/- Plotter programs folded (the program). -/
import Derived.Test.YthojdoiffkdikaaGreatDoorPlotM
namespace Go.Proofs.YthojdoiffkdikaaGreatDoor
open Go.RowKit Go.PlotT

theorem join_words (out : List Wd) (g cap : Nat) (w : World) (hl : Lies w g out) (hcap : out.length ≤ cap) (hn : out.length ≤ 1048576) (hlen : (jn out).length ≤ 1048576) :
    Calls Tryz.prog 61 #[.slice (some ⟨g, 0, none⟩) out.length cap, .string ⟨#[32]⟩] w fun e w' => e = .returned (.string ⟨(jn out).toArray⟩) ∧ Below w.heap.size w w' := by
  have e1 : ((out.map fun x => (⟨x.toArray⟩ : ByteArray)).map (·.data.toList)) = out := by
    rw [List.map_map]
    conv => rhs; rw [← List.map_id out]
    apply List.map_congr_left
    intro x _
    rfl
  have h := Tryz.strings_Join g 0 cap (out.map fun x => (⟨x.toArray⟩ : ByteArray)) ⟨#[32]⟩ w (by
    intro j x hx
    rw [List.getElem?_map] at hx
    obtain ⟨y, hy, rfl⟩ := Option.map_eq_some_iff.1 hx
    rw [Nat.zero_add]
    exact hl.2 j y hy) hl.1 (by rw [List.length_map]; omega) (by rw [List.length_map]; exact hcap) (by
      rw [e1]
      show (jn out).length ≤ _
      omega)
  rw [e1, List.length_map] at h
  exact h
theorem indexByte_mem (l : List UInt8) (c : UInt8) : decide (0 ≤ Lib.indexByte l c) = decide (c ∈ l) := by
  have hge := Lib.indexByte_ge l c
  rw [Bool.eq_iff_iff, decide_eq_true_iff, decide_eq_true_iff]
  constructor
  · intro h
    obtain ⟨i, hi⟩ : ∃ i : Nat, Lib.indexByte l c = i := ⟨(Lib.indexByte l c).toNat, by omega⟩
    exact List.mem_of_getElem? (Lib.indexByte_some hi).1
  · intro h
    rcases Classical.em (Lib.indexByte l c = -1) with e | e
    · obtain ⟨k, hk, hx⟩ := List.getElem_of_mem h
      exact absurd (by rw [List.getElem?_eq_getElem hk, hx]) (Lib.indexByte_none e k)
    · omega
theorem decDigits_one (n : Nat) (h : n < 10) : Lib.decDigits n = [UInt8.ofNat (48 + n)] := by
  rw [Lib.decDigits, dif_pos h]
theorem itoa_decS (n : Nat) (h : n < 10) (w : World) : Calls Tryz.prog 60 #[.int .i64 n] w fun e w' => e = .returned (.string (decS n)) ∧ w' = w := by
  have := Tryz.strconv_Itoa_small n (by omega) w
  rw [decDigits_one n h] at this
  exact this
theorem stepsB_le (l : Wd) : (stepsB l).length ≤ 500 := by
  unfold stepsB
  split
  · next o h =>
    rw [prog_eq] at h
    split at h
    · cases h
    · obtain ⟨⟨a, b⟩, hf, e⟩ := Option.map_eq_some_iff.1 h
      simp only at e
      subst e
      obtain ⟨h1, h2⟩ := fl_steps hf
      rw [(steps_bytes h1).2]; exact h2
  · simp
end Go.Proofs.YthojdoiffkdikaaGreatDoor
