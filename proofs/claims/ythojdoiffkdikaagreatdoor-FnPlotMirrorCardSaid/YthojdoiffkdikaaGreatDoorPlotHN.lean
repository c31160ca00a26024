/- Mirrored programs: the steps. -/
import Derived.Test.YthojdoiffkdikaaGreatDoorPlotL
import Derived.Test.YthojdoiffkdikaaGreatDoorPlotHM
namespace Go.Proofs.YthojdoiffkdikaaGreatDoor
open Go.RowKit Go.PlotT

theorem stepsB_sw (s : Wd) : stepsB (s.map swB) = (stepsB s).map swB := by
  unfold stepsB
  rw [prog_sw]
  cases prog s with
  | none => rfl
  | some o => exact List.map_flatten.symm
theorem stepsB_ok {s : Wd} (h : mirOk s = true) : ∀ c ∈ stepsB s, isSt [c] = true ∧ c ≠ 116 := by
  intro c hc
  unfold mirOk at h
  rw [Bool.and_eq_true] at h
  obtain ⟨hp, ht⟩ := h
  obtain ⟨o, ho⟩ := Option.isSome_iff_exists.1 hp
  have h116 : 116 ∉ s := by simpa using ht
  unfold stepsB at hc
  rw [ho] at hc
  obtain ⟨w, hw, hcw⟩ := List.mem_flatten.1 hc
  have hst : isSt w = true := by
    have h2 := ho
    rw [prog_eq] at h2
    split at h2
    · cases h2
    · obtain ⟨⟨a, b⟩, hf, e⟩ := Option.map_eq_some_iff.1 h2
      simp only at e
      subst e
      exact (fl_steps hf).1 w hw
  obtain ⟨d, rfl⟩ := isSt_one hst
  obtain rfl : c = d := by simpa using hcw
  refine ⟨hst, fun e => ?_⟩
  subst e
  have h3 := ho
  unfold prog at h3
  split at h3
  · cases h3
  · obtain ⟨⟨a, b⟩, hf, e⟩ := Option.map_eq_some_iff.1 h3
    simp only at e
    subst e
    rcases (flat_mem _ _ _ _ _ _ hf).1 _ hw with h4 | h4
    · simp at h4
    · exact h116 ((mir_t ho).2 h4)
theorem end_mir {s : Wd} (h : mirOk s = true) : (endE (stepsB s)).2.2 = 0 ∧ endE (stepsB (mirR s)) = (0 - (endE (stepsB s)).1, (endE (stepsB s)).2.1, 0) := by
  rw [show mirR s = s.map swB by rw [mirR, if_pos h], stepsB_sw]
  exact endE_sw (stepsB_ok h)
end Go.Proofs.YthojdoiffkdikaaGreatDoor
