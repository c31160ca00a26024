/- Mirrored programs: what a mirrored text is (for the law of the ends). -/
import Derived.Test.YthojdoiffkdikaaGreatDoorPlotH
namespace Go.PlotT

theorem swB_inj {a b : UInt8} (h : swB a = swB b) : a = b := by
  rw [← swB_swB a, h, swB_swB]
theorem swB_fix {c : UInt8} (h1 : c ≠ 101) (h2 : c ≠ 119) : swB c = c := by
  unfold swB; rw [if_neg h1, if_neg h2]
theorem swB_iff {c d : UInt8} (h1 : d ≠ 101) (h2 : d ≠ 119) : swB c = d ↔ c = d := by
  constructor
  · intro h
    exact swB_inj (h.trans (swB_fix h1 h2).symm)
  · rintro rfl; exact swB_fix h1 h2
/-- A word's bytes exchanged. -/
def swM (w : Wd) : Wd := w.map swB
theorem swM_swM (w : Wd) : swM (swM w) = w := by
  simp only [swM, List.map_map]
  conv => rhs; rw [← List.map_id w]
  exact List.map_congr_left fun c _ => swB_swB c
theorem isSt_sw (w : Wd) : isSt (swM w) = isSt w := by
  match w with
  | [] => rfl
  | [c] =>
    show isSt [swB c] = isSt [c]
    by_cases e1 : c = 101
    · subst e1; decide
    · by_cases e2 : c = 119
      · subst e2; decide
      · rw [swB_fix e1 e2]
  | _ :: _ :: _ => rfl
theorem loopN_sw (w : Wd) : loopN (swM w) = loopN w := by
  match w with
  | [] => rfl
  | [_] => rfl
  | [r, d] =>
    show loopN [swB r, swB d] = loopN [r, d]
    have hr := swB_iff (c := r) (d := 114) (by decide) (by decide)
    by_cases e1 : d = 101
    · subst e1
      simp only [loopN]
      rw [if_neg (fun h => absurd h.2.2 (by decide)), if_neg (fun h => absurd h.2.2 (by decide))]
    · by_cases e2 : d = 119
      · subst e2
        simp only [loopN]
        rw [if_neg (fun h => absurd h.2.2 (by decide)), if_neg (fun h => absurd h.2.2 (by decide))]
      · simp only [loopN, swB_fix e1 e2, hr]
  | _ :: _ :: _ :: _ => rfl
theorem close_sw (w : Wd) : swM w = [93] ↔ w = [93] := by
  constructor
  · intro h
    rw [← swM_swM w, h]; rfl
  · rintro rfl; rfl
theorem flat_sw : ∀ (f : Nat) (ws : List Wd) (ins : Bool) (acc : List Wd), flat f (ws.map swM) ins (acc.map swM) = (flat f ws ins acc).map fun p => (p.1.map swM, p.2.map swM)
  | 0, _, _, _ => by simp [flat]
  | _ + 1, [], ins, acc => by
    simp only [List.map_nil, flat, List.isEmpty_map]
    split <;> rfl
  | f + 1, w :: r, ins, acc => by
    have h1 := flat_sw f r ins (acc ++ [w])
    have h2 := flat_sw f r true []
    simp only [List.map_append, List.map_cons, List.map_nil] at h1 h2
    simp only [List.map_cons, flat, isSt_sw, loopN_sw, close_sw, List.length_append, List.length_map, List.length_cons, List.length_nil]
    split
    · split
      · rfl
      · exact h1
    · split
      · rw [h2]
        cases hb : flat f r true [] with
        | none => rfl
        | some p =>
          obtain ⟨body, r'⟩ := p
          have h3 := flat_sw f r' ins (acc ++ (List.replicate (loopN w) body).flatten)
          have h4 : (List.replicate (loopN w) (body.map swM)).flatten = ((List.replicate (loopN w) body).flatten).map swM := by
            rw [List.map_flatten, List.map_replicate]
          simp only [Option.map_some, h4, List.length_map]
          split
          · rfl
          · rw [← h3, List.map_append]
      · have h5 : acc.map swM ≠ [] ↔ acc ≠ [] := by simp
        simp only [h5]
        split <;> rfl
theorem cutW_sw : ∀ s : Wd, cutW (s.map swB) = (cutW s).map swM
  | [] => rfl
  | c :: t => by
    have ih := cutW_sw t
    have hc := swB_iff (c := c) (d := 32) (by decide) (by decide)
    simp only [List.map_cons, cutW, hc, ih]
    split
    · rfl
    · cases cutW t <;> rfl
theorem prog_sw (s : Wd) : prog (s.map swB) = (prog s).map (·.map swM) := by
  unfold prog
  rw [List.length_map, cutW_sw]
  have h := flat_sw (s.length + 2) (cutW s) false []
  simp only [List.map_nil] at h
  rw [h]
  split
  · rfl
  · cases flat (s.length + 2) (cutW s) false [] <;> rfl
theorem mirOk_sw {s : Wd} (h : mirOk s = true) : mirOk (s.map swB) = true := by
  unfold mirOk at h ⊢
  rw [prog_sw]
  have h116 : (116 : UInt8) ∈ s.map swB ↔ 116 ∈ s := by
    rw [List.mem_map]
    constructor
    · rintro ⟨a, ha, e⟩
      rw [← (swB_iff (by decide) (by decide)).1 e]; exact ha
    · intro hm; exact ⟨116, hm, by decide⟩
  simp only [Option.isSome_map, h116]
  exact h
theorem mirR_mirR {s : Wd} (h : mirOk s = true) : mirR (mirR s) = s := by
  have h1 : mirR s = s.map swB := by rw [mirR, if_pos h]
  rw [h1, mirR, if_pos (mirOk_sw h)]
  exact swM_swM s
/-- The pen's way; its number; a step of the pen (across, up, quarter turns); where a list ends. -/
def wayE (k : Nat) : Int × Int := if k = 0 then (1, 0) else if k = 1 then (0, 1) else if k = 2 then (-1, 0) else (0, -1)
def idxE (c : UInt8) : Nat := if c = 101 then 0 else if c = 110 then 1 else if c = 119 then 2 else 3
def stepE (p : Int × Int × Nat) (c : UInt8) : Int × Int × Nat :=
  if c = 117 ∨ c = 100 then p else if c = 116 then (p.1, p.2.1, (p.2.2 + 1) % 4)
  else (p.1 + (wayE ((idxE c + p.2.2) % 4)).1, p.2.1 + (wayE ((idxE c + p.2.2) % 4)).2, p.2.2)
def endE (l : Wd) : Int × Int × Nat := l.foldl stepE (0, 0, 0)
theorem isSt_cases {c : UInt8} (h : isSt [c] = true) : c = 117 ∨ c = 100 ∨ c = 110 ∨ c = 101 ∨ c = 115 ∨ c = 119 ∨ c = 116 := by
  simpa [isSt, or_assoc] using h
theorem stepE_sw {x y : Int} {c : UInt8} (h : isSt [c] = true) (ht : c ≠ 116) :
    (stepE (x, y, 0) c).2.2 = 0 ∧ stepE (0 - x, y, 0) (swB c) = (0 - (stepE (x, y, 0) c).1, (stepE (x, y, 0) c).2.1, 0) := by
  rcases isSt_cases h with rfl | rfl | rfl | rfl | rfl | rfl | rfl
  · exact ⟨rfl, rfl⟩
  · exact ⟨rfl, rfl⟩
  · refine ⟨rfl, ?_⟩
    show (0 - x + 0, y + 1, 0) = (0 - (x + 0), y + 1, 0)
    rw [Int.add_zero, Int.add_zero]
  · refine ⟨rfl, ?_⟩
    show (0 - x + (-1 : Int), y + (0 : Int), 0) = (0 - (x + 1), y + (0 : Int), 0)
    rw [show 0 - x + (-1 : Int) = 0 - (x + 1) by omega]
  · refine ⟨rfl, ?_⟩
    show (0 - x + 0, y + (-1 : Int), 0) = (0 - (x + 0), y + (-1 : Int), 0)
    rw [Int.add_zero, Int.add_zero]
  · refine ⟨rfl, ?_⟩
    show (0 - x + (1 : Int), y + (0 : Int), 0) = (0 - (x + (-1)), y + (0 : Int), 0)
    rw [show 0 - x + (1 : Int) = 0 - (x + (-1)) by omega]
  · exact absurd rfl ht
theorem endE_sw_from : ∀ (l : Wd) (x y : Int), (∀ c ∈ l, isSt [c] = true ∧ c ≠ 116) →
    (l.foldl stepE (x, y, 0)).2.2 = 0 ∧ (l.map swB).foldl stepE (0 - x, y, 0) = (0 - (l.foldl stepE (x, y, 0)).1, (l.foldl stepE (x, y, 0)).2.1, 0)
  | [], _, _, _ => ⟨rfl, rfl⟩
  | c :: l, x, y, h => by
    have hc := stepE_sw (x := x) (y := y) (h c (by simp)).1 (h c (by simp)).2
    simp only [List.map_cons, List.foldl_cons]
    obtain ⟨h1, h2⟩ := hc
    rw [h2]
    have h3 : stepE (x, y, 0) c = ((stepE (x, y, 0) c).1, (stepE (x, y, 0) c).2.1, 0) := Prod.ext rfl (Prod.ext rfl h1)
    have ih := endE_sw_from l (stepE (x, y, 0) c).1 (stepE (x, y, 0) c).2.1 (fun d hd => h d (by simp [hd]))
    rw [← h3] at ih
    exact ih
theorem endE_sw {l : Wd} (h : ∀ c ∈ l, isSt [c] = true ∧ c ≠ 116) : (endE l).2.2 = 0 ∧ endE (l.map swB) = (0 - (endE l).1, (endE l).2.1, 0) :=
  endE_sw_from l 0 0 h
/-- What a reading writes stood in the text. -/
theorem flat_mem : ∀ (f : Nat) (ws : List Wd) (ins : Bool) (acc o r : List Wd), flat f ws ins acc = some (o, r) → (∀ w ∈ o, w ∈ acc ∨ w ∈ ws) ∧ ∀ w ∈ r, w ∈ ws
  | 0, _, _, _, _, _ => by simp [flat]
  | _ + 1, [], ins, acc, o, r => by
    simp only [flat]
    split
    · simp
    · intro h
      obtain ⟨rfl, rfl⟩ := Prod.mk.inj (Option.some.inj h)
      exact ⟨fun w hw => Or.inl hw, fun w hw => by simp at hw⟩
  | f + 1, w :: r, ins, acc, o, q => by
    simp only [flat]
    split
    · split
      · simp
      · intro h
        obtain ⟨h1, h2⟩ := flat_mem f r ins _ o q h
        refine ⟨fun v hv => ?_, fun v hv => List.mem_cons_of_mem _ (h2 v hv)⟩
        rcases h1 v hv with h3 | h3
        · rw [List.mem_append, List.mem_singleton] at h3
          rcases h3 with h3 | rfl
          · exact Or.inl h3
          · exact Or.inr (by simp)
        · exact Or.inr (List.mem_cons_of_mem _ h3)
    · split
      · cases hb : flat f r true [] with
        | none => simp
        | some p =>
          obtain ⟨body, r'⟩ := p
          obtain ⟨b1, b2⟩ := flat_mem f r true [] body r' hb
          simp only
          split
          · simp
          · intro h
            obtain ⟨h1, h2⟩ := flat_mem f r' ins _ o q h
            refine ⟨fun v hv => ?_, fun v hv => List.mem_cons_of_mem _ (b2 v (h2 v hv))⟩
            rcases h1 v hv with h3 | h3
            · rw [List.mem_append] at h3
              rcases h3 with h3 | h3
              · exact Or.inl h3
              · obtain ⟨l, hl, hv2⟩ := List.mem_flatten.1 h3
                rw [(List.mem_replicate.1 hl).2] at hv2
                rcases b1 v hv2 with h4 | h4
                · simp at h4
                · exact Or.inr (List.mem_cons_of_mem _ h4)
            · exact Or.inr (List.mem_cons_of_mem _ (b2 v h3))
      · split
        · intro h
          obtain ⟨rfl, rfl⟩ := Prod.mk.inj (Option.some.inj h)
          exact ⟨fun v hv => Or.inl hv, fun v hv => List.mem_cons_of_mem _ hv⟩
        · simp
end Go.PlotT
