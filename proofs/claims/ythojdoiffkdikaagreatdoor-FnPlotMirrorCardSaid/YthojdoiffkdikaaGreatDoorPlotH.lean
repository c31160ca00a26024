/- Mirrored programs: plain theory. -/
import Derived.Test.YthojdoiffkdikaaGreatDoorPlotG
namespace Go.PlotT

/-- East and west exchanged: a byte, a word. -/
def swB (c : UInt8) : UInt8 := if c = 101 then 119 else if c = 119 then 101 else c
def swW (w : Wd) : Wd := if w = [101] then [119] else if w = [119] then [101] else w
theorem swB_swB (c : UInt8) : swB (swB c) = c := by
  unfold swB
  by_cases h1 : c = 101
  · subst h1; decide
  · by_cases h2 : c = 119
    · subst h2; decide
    · rw [if_neg h1, if_neg h2, if_neg h1, if_neg h2]
theorem okW_cases {w : Wd} (h : okW w) : (∃ c, w = [c]) ∨ (∃ d : UInt8, w = [114, d] ∧ 49 ≤ d ∧ d ≤ 57) := by
  rcases h with h | h | rfl
  · exact Or.inl (isSt_one h)
  · exact Or.inr (loopN_two h)
  · exact Or.inl ⟨93, rfl⟩
theorem swW_map {w : Wd} (h : okW w) : swW w = w.map swB := by
  rcases okW_cases h with ⟨c, rfl⟩ | ⟨d, rfl, h1, h2⟩
  · unfold swW swB
    by_cases e1 : c = 101
    · subst e1; rfl
    · by_cases e2 : c = 119
      · subst e2; rfl
      · simp [e1, e2]
  · have d1 : d ≠ 101 := fun e => by subst e; exact absurd h2 (by decide)
    have d2 : d ≠ 119 := fun e => by subst e; exact absurd h2 (by decide)
    simp [swW, swB, d1, d2]
theorem okW_t {w : Wd} (h : okW w) : 116 ∈ w ↔ w = [116] := by
  rcases okW_cases h with ⟨c, rfl⟩ | ⟨d, rfl, h1, h2⟩
  · simp [eq_comm]
  · have d1 : (116 : UInt8) ≠ d := fun e => by subst e; exact absurd h2 (by decide)
    simp [d1]
theorem jn_map : ∀ (ws : List Wd), jn (ws.map (·.map swB)) = (jn ws).map swB
  | [] => rfl
  | [a] => by simp
  | a :: b :: l => by
    have ih := jn_map (b :: l)
    simp only [List.map_cons] at ih ⊢
    rw [jn_cons, jn_cons, ih, List.map_append, List.map_cons]
    rfl
/-- Whether a text can be mirrored; the mirrored text. -/
def mirOk (s : Wd) : Bool := (prog s).isSome && !decide (116 ∈ s)
def mirR (s : Wd) : Wd := if mirOk s = true then s.map swB else []
theorem mir_words {s : Wd} {o : List Wd} (hp : prog s = some o) : jn ((cutW s).map swW) = s.map swB := by
  have h : (cutW s).map swW = (cutW s).map (·.map swB) := List.map_congr_left fun w hw => swW_map (prog_words hp w hw)
  rw [h, jn_map, show jn (cutW s) = s from cutW_join s]
theorem mir_t {s : Wd} {o : List Wd} (hp : prog s = some o) : 116 ∈ s ↔ [116] ∈ cutW s := by
  rw [cutW_mem s 116 (by decide)]
  constructor
  · rintro ⟨w, hw, hm⟩
    rw [(okW_t (prog_words hp w hw)).1 hm] at hw
    exact hw
  · intro h; exact ⟨_, h, by simp⟩
end Go.PlotT
