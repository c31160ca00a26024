/- Designs as texts: the reference's DesignText. Programs of a plotter: plain theory, no program in sight. Plotter programs: words, steps, loops (the reference). -/
import Derived.Test.YthojdoiffkdikaaGreatDoorDesH
import Derived.Test.YthojdoiffkdikaaGreatDoorKit
section -- a part
namespace Go.Proofs.YthojdoiffkdikaaGreatDoor
open Go.RowKit

def textR (ds : List W9) : Option Tx := (tidyR ds).map dt
def TextPost (w : World) (r : Option Tx) (e : Ending) (w' : World) : Prop := e = .returned (.tuple #[.string ⟨(r.getD []).toArray⟩, .bool r.isSome]) ∧ Below w.heap.size w w'
theorem tidyR_ok {ds t : List W9} (h : tidyR ds = some t) : dvOk t = true := by
  rw [tidyR] at h
  split at h
  · rw [tdR] at h
    cases hty : tyS [] ds with
    | none => rw [hty] at h; cases h
    | some l =>
      rw [hty] at h
      simp only [Option.bind_some] at h
      split at h
      · next hd => rw [← Option.some.inj h]; exact hd
      · cases h
  · cases h
set_option maxRecDepth 100000 in
set_option maxHeartbeats 4000000 in
theorem specDesignText_any (a : Option Addr) (cap : Nat) (ds : List W9) (w : World) (h : HasW w a ds) (hn : ds.length ≤ 1048576) :
    Calls Tryz.prog 18 #[.slice a ds.length cap] w (TextPost w (textR ds)) := by
  have H := Lib.hid (specDesignTidy_any a cap ds w h hn)
  clear h
  cases ht : tidyR ds with
  | none =>
    rw [ht] at H
    have HR := Lib.hid (show textR ds = none by rw [textR, ht]; rfl)
    clear ht
    go_enter Tryz.func18, Tryz.ntmps18
    go_wp2_with (go_at_call 40; go_must (refine H.out.mono ?_; rintro e w1 ⟨g, c, rfl, ho, hb⟩; have HO := Lib.hid ho; have HB := Lib.hid hb; clear ho hb))
    go_returns
    exact ⟨by rw [HR.out]; rfl, HB.out⟩
  | some t =>
    rw [ht] at H
    have HR := Lib.hid (show textR ds = some (dt t) by rw [textR, ht]; rfl)
    have HT := Lib.hid (dvOk_mem (tidyR_ok ht))
    clear ht
    go_enter Tryz.func18, Tryz.ntmps18
    go_wp2_with (first
      | (go_at_call 40; go_must (refine H.out.mono ?_; rintro e w1 ⟨g, c, rfl, ho, hb⟩; have HO := Lib.hid ho; have HB := Lib.hid hb; clear ho hb))
      | (go_at_call 41; refine (l13Text_any _ _ t _ HO.out.has HT.out.1 HT.out.2).mono ?_; rintro e w' ⟨rfl, hb⟩; obtain ⟨os, d, rfl⟩ := more_of_below hb; clear hb))
    go_returns
    exact ⟨by rw [HR.out]; rfl, below_more HB.out HB.out.size _ _⟩
end Go.Proofs.YthojdoiffkdikaaGreatDoor
end
section -- a part
namespace Go.PlotT
abbrev Wd := List UInt8

/-- A text cut at its spaces. -/
def cutW : Wd → List Wd
  | [] => [[]]
  | c :: t => if c = 32 then [] :: cutW t else match cutW t with
    | [] => [[c]]
    | h :: r => (c :: h) :: r
theorem cutW_ne : ∀ s, cutW s ≠ []
  | [] => by simp [cutW]
  | c :: t => by
    have := cutW_ne t
    unfold cutW; split
    · simp
    · split <;> simp
theorem cutW_join : ∀ s, [32].intercalate (cutW s) = s
  | [] => by rfl
  | c :: t => by
    have ih := cutW_join t
    have hn := cutW_ne t
    unfold cutW
    split
    · next h =>
      subst h
      cases e : cutW t with
      | nil => exact absurd e hn
      | cons a r => rw [e] at ih; simp [List.intercalate, List.intersperse, ← ih]
    · cases e : cutW t with
      | nil => exact absurd e hn
      | cons a r =>
        rw [e] at ih
        simp only
        rw [← ih]
        cases r <;> simp [List.intercalate, List.intersperse]
theorem cutW_mem : ∀ (s : Wd) (c : UInt8), c ≠ 32 → (c ∈ s ↔ ∃ w ∈ cutW s, c ∈ w)
  | [], c, _ => by simp [cutW]
  | x :: t, c, hc => by
    have ih := cutW_mem t c hc
    have hn := cutW_ne t
    unfold cutW
    split
    · next h =>
      subst h
      simp only [List.mem_cons, hc, false_or, ih]
      constructor
      · rintro ⟨w, h1, h2⟩; exact ⟨w, Or.inr h1, h2⟩
      · rintro ⟨w, rfl | h1, h2⟩
        · simp at h2
        · exact ⟨w, h1, h2⟩
    · cases e : cutW t with
      | nil => exact absurd e hn
      | cons a r =>
        rw [e] at ih
        simp only [List.mem_cons, ih]
        constructor
        · rintro (rfl | ⟨w, rfl | h1, h2⟩)
          · exact ⟨_, Or.inl rfl, by simp⟩
          · exact ⟨_, Or.inl rfl, by simp [h2]⟩
          · exact ⟨w, Or.inr h1, h2⟩
        · rintro ⟨w, rfl | h1, h2⟩
          · rcases List.mem_cons.1 h2 with rfl | h2
            · exact Or.inl rfl
            · exact Or.inr ⟨a, Or.inl rfl, h2⟩
          · exact Or.inr ⟨w, Or.inr h1, h2⟩

/-- A step; how often a loop's word repeats. -/
def isSt : Wd → Bool
  | [c] => c == 117 || c == 100 || c == 110 || c == 101 || c == 115 || c == 119 || c == 116
  | _ => false
def loopN : Wd → Nat
  | [r, d] => if r = 114 ∧ 49 ≤ d ∧ d ≤ 57 then d.toNat - 48 else 0
  | _ => 0
theorem isSt_one {w : Wd} (h : isSt w = true) : ∃ c, w = [c] := by
  match w, h with
  | [c], _ => exact ⟨c, rfl⟩
theorem loopN_of_isSt {w : Wd} (h : isSt w = true) : loopN w = 0 := by
  obtain ⟨c, rfl⟩ := isSt_one h; rfl
theorem loopN_two {w : Wd} (h : 0 < loopN w) : ∃ d, w = [114, d] ∧ 49 ≤ d ∧ d ≤ 57 := by
  match w, h with
  | [r, d], h =>
    simp only [loopN] at h
    split at h
    · next h1 => exact ⟨d, by rw [h1.1], h1.2.1, h1.2.2⟩
    · omega

/-- The steps of words up to the end or to a bracket, and what is left of the words. -/
def flat : Nat → List Wd → Bool → List Wd → Option (List Wd × List Wd)
  | 0, _, _, _ => none
  | _ + 1, [], ins, acc => if ins || acc.isEmpty then none else some (acc, [])
  | f + 1, w :: r, ins, acc =>
    if isSt w then (if (acc ++ [w]).length > 500 then none else flat f r ins (acc ++ [w]))
    else if 0 < loopN w then
      match flat f r true [] with
      | none => none
      | some (body, r') => if (acc ++ (List.replicate (loopN w) body).flatten).length > 500 then none else flat f r' ins (acc ++ (List.replicate (loopN w) body).flatten)
    else if w = [93] ∧ ins = true ∧ acc ≠ [] then some (acc, r) else none

/-- A word of a program. -/
def okW (w : Wd) : Prop := isSt w = true ∨ 0 < loopN w ∨ w = [93]
/-- What has been read: the words in front are words of programs; something was written. -/
theorem flat_some : ∀ (f : Nat) (ws : List Wd) (ins : Bool) (acc o r : List Wd), flat f ws ins acc = some (o, r) →
    (∃ p, ws = p ++ r ∧ ∀ w ∈ p, okW w) ∧ o ≠ [] ∧ (ins = false → r = []) ∧ (ins = true → r.length < ws.length)
  | 0, _, _, _, _, _, h => by simp [flat] at h
  | f + 1, [], ins, acc, o, r, h => by
    unfold flat at h
    split at h
    · simp at h
    · next hc =>
      simp only [Option.some.injEq, Prod.mk.injEq] at h
      obtain ⟨rfl, rfl⟩ := h
      simp only [Bool.or_eq_true, List.isEmpty_iff, not_or, Bool.not_eq_true] at hc
      exact ⟨⟨[], rfl, by simp⟩, hc.2, fun _ => rfl, fun e => by rw [hc.1] at e; simp at e⟩
  | f + 1, w :: ws, ins, acc, o, r, h => by
    unfold flat at h
    split at h
    · next hs =>
      split at h
      · simp at h
      · obtain ⟨⟨p, e, hp⟩, h2, h3, h4⟩ := flat_some f _ _ _ _ _ h
        exact ⟨⟨w :: p, by rw [e]; rfl, by simpa using ⟨Or.inl hs, hp⟩⟩, h2, h3, fun e => by have := h4 e; simp; omega⟩
    · split at h
      · next hl =>
        split at h
        · simp at h
        · next body r' hb =>
          split at h
          · simp at h
          · obtain ⟨⟨p, e, hp⟩, h2, h3, h4⟩ := flat_some f _ _ _ _ _ h
            obtain ⟨⟨p', e', hp'⟩, -, -, h4'⟩ := flat_some f _ _ _ _ _ hb
            refine ⟨⟨w :: (p' ++ p), by rw [e', e]; simp, ?_⟩, h2, h3, fun e => ?_⟩
            · intro x hx
              rcases List.mem_cons.1 hx with rfl | hx
              · exact Or.inr (Or.inl hl)
              · rcases List.mem_append.1 hx with hx | hx
                · exact hp' x hx
                · exact hp x hx
            · have := h4 e; have := h4' rfl; simp; omega
      · split at h
        · next hb =>
          simp only [Option.some.injEq, Prod.mk.injEq] at h
          obtain ⟨rfl, rfl⟩ := h
          exact ⟨⟨[w], rfl, by intro x hx; rw [List.mem_singleton.1 hx]; exact Or.inr (Or.inr hb.1)⟩, hb.2.2, fun e => by rw [hb.2.1] at e; simp at e, fun _ => by simp⟩
        · simp at h
/-- So much fuel is enough. -/
theorem flat_fuel : ∀ (n f g : Nat) (ws : List Wd) (ins : Bool) (acc : List Wd), ws.length < n → n ≤ f → n ≤ g → flat f ws ins acc = flat g ws ins acc
  | 0, _, _, _, _, _, h, _, _ => by omega
  | n + 1, f, g, ws, ins, acc, h, hf, hg => by
    obtain ⟨f, rfl⟩ : ∃ x, f = x + 1 := ⟨f - 1, by omega⟩
    obtain ⟨g, rfl⟩ : ∃ x, g = x + 1 := ⟨g - 1, by omega⟩
    cases ws with
    | nil => rfl
    | cons w r =>
      simp only [List.length_cons] at h
      unfold flat
      rw [flat_fuel n f g r ins _ (by omega) (by omega) (by omega), flat_fuel n f g r true [] (by omega) (by omega) (by omega)]
      split
      · rfl
      · split
        · split
          · rfl
          · next body r' hb =>
            obtain ⟨-, -, -, h4⟩ := flat_some g _ _ _ _ _ hb
            have := h4 rfl
            rw [flat_fuel n f g r' ins _ (by omega) (by omega) (by omega)]
        · rfl
/-- Where no word is a loop's, outside of each bracket, all words are steps and are what is written. -/
theorem flat_plain : ∀ (f : Nat) (ws acc o r : List Wd), (∀ w ∈ ws, loopN w = 0) → flat f ws false acc = some (o, r) → (∀ w ∈ ws, isSt w = true) ∧ o = acc ++ ws
  | 0, _, _, _, _, _, h => by simp [flat] at h
  | f + 1, [], acc, o, r, _, h => by
    unfold flat at h
    split at h
    · simp at h
    · simp only [Option.some.injEq, Prod.mk.injEq] at h
      exact ⟨by simp, by simp [h.1]⟩
  | f + 1, w :: ws, acc, o, r, hw, h => by
    unfold flat at h
    rw [if_neg (show ¬ 0 < loopN w by rw [hw w (by simp)]; omega)] at h
    split at h
    · next hs =>
      split at h
      · simp at h
      · obtain ⟨h1, h2⟩ := flat_plain f ws _ o r (fun x hx => hw x (by simp [hx])) h
        exact ⟨by simpa using ⟨hs, h1⟩, by rw [h2]; simp⟩
    · simp at h

/-- The steps of a text, if it is a program. -/
def prog (s : Wd) : Option (List Wd) := if s.length > 400 then none else (flat (s.length + 2) (cutW s) false []).map (·.1)
theorem cutW_length : ∀ s, (cutW s).length ≤ s.length + 1
  | [] => by simp [cutW]
  | c :: t => by
    have := cutW_length t
    unfold cutW
    split
    · simp; omega
    · split <;> simp_all <;> omega
theorem prog_words {s : Wd} {o : List Wd} (h : prog s = some o) : ∀ w ∈ cutW s, okW w := by
  unfold prog at h
  split at h
  · simp at h
  · simp only [Option.map_eq_some_iff] at h
    obtain ⟨⟨a, b⟩, h, rfl⟩ := h
    obtain ⟨⟨p, e, hp⟩, -, h3, -⟩ := flat_some _ _ _ _ _ _ h
    rw [h3 rfl, List.append_nil] at e
    rw [e]; exact hp
theorem okW_r {w : Wd} (h : okW w) : 114 ∈ w ↔ 0 < loopN w := by
  rcases h with h | h | rfl
  · obtain ⟨c, rfl⟩ := isSt_one h
    simp only [isSt, Bool.or_eq_true, beq_iff_eq] at h
    simp [loopN]
    rintro rfl
    simp at h
  · obtain ⟨d, rfl, -⟩ := loopN_two h
    simp [h]
  · simp [loopN]
/-- A program without loops: its words are its steps. -/
theorem prog_plain {s : Wd} {o : List Wd} (h : prog s = some o) (hr : 114 ∉ s) : (∀ w ∈ cutW s, isSt w = true) ∧ o = cutW s := by
  have hw := prog_words h
  have h0 : ∀ w ∈ cutW s, loopN w = 0 := fun w hx => by
    have h1 := okW_r (hw w hx)
    have h2 : 114 ∉ w := fun e => hr ((cutW_mem s 114 (by decide)).2 ⟨w, hx, e⟩)
    rcases Nat.eq_zero_or_pos (loopN w) with e | e
    · exact e
    · exact absurd (h1.2 e) h2
  unfold prog at h
  split at h
  · simp at h
  · simp only [Option.map_eq_some_iff] at h
    obtain ⟨⟨a, b⟩, h, rfl⟩ := h
    obtain ⟨h1, h2⟩ := flat_plain _ _ _ _ _ h0 h
    exact ⟨h1, by simpa using h2⟩
/-- A program with a loop has a word that is no step. -/
theorem prog_loop {s : Wd} {o : List Wd} (h : prog s = some o) (hr : 114 ∈ s) : ∃ w ∈ cutW s, isSt w = false := by
  obtain ⟨w, hx, hm⟩ := (cutW_mem s 114 (by decide)).1 hr
  refine ⟨w, hx, ?_⟩
  rcases Bool.eq_false_or_eq_true (isSt w) with e | e
  · have h1 := (okW_r (prog_words h w hx)).1 hm
    rw [loopN_of_isSt e] at h1; omega
  · exact e
end Go.PlotT
end
section -- a part
namespace Go.Proofs.YthojdoiffkdikaaGreatDoor
open Go.RowKit Go.PlotT

theorem isSt_eq (l : Wd) : isSt l = (l == [117] || l == [100] || l == [110] || l == [101] || l == [115] || l == [119] || l == [116]) := by
  rcases l with _ | ⟨a, _ | ⟨b, l⟩⟩
  · rfl
  · simp [isSt]
  · simp [isSt]
theorem loopN_pair (a b : UInt8) : loopN [a, b] = if a.toNat = 114 ∧ 49 ≤ b.toNat ∧ b.toNat ≤ 57 then b.toNat - 48 else 0 := by
  have h1 : a = 114 ↔ a.toNat = 114 := ⟨fun e => by rw [e]; rfl, fun e => UInt8.toNat_inj.1 e⟩
  simp only [loopN, h1, UInt8.le_iff_toNat_le]
  rfl
theorem pair0 (a b : UInt8) (h : 0 < (⟨⟨[a, b]⟩⟩ : ByteArray).size) : (⟨⟨[a, b]⟩⟩ : ByteArray)[0] = a := rfl
theorem pair1 (a b : UInt8) (h : 1 < (⟨⟨[a, b]⟩⟩ : ByteArray).size) : (⟨⟨[a, b]⟩⟩ : ByteArray)[1] = b := rfl
theorem l12Step_any (s : ByteArray) (w : World) :
    Calls Tryz.prog 124 #[.string s] w fun e w' => e = .returned (.bool (isSt s.toList)) ∧ w = w' := by
  have hE := isSt_eq s.toList
  obtain ⟨v, hv⟩ : ∃ v, isSt s.toList = v := ⟨_, rfl⟩
  rw [hv] at hE ⊢
  have HE := Lib.hid hE
  clear hE hv
  go_enter Tryz.func124, Tryz.ntmps124
  go_wp2_with fail
  all_goals
    first
    | (exfalso; simp_all; done)
    | (go_ret
       have hE := HE.out
       simp_all; done)
theorem l12Loop_any (s : ByteArray) (w : World) :
    Calls Tryz.prog 123 #[.string s] w fun e w' => e = .returned (.int .i64 (loopN s.data.toList)) ∧ w = w' := by
  obtain ⟨⟨l⟩⟩ := s
  rcases l with _ | ⟨a, _ | ⟨b, _ | ⟨c, l⟩⟩⟩
  case cons.cons.nil =>
    go_enter Tryz.func123, Tryz.ntmps123
    go_wp2_with fail
    all_goals
      go_ret
      refine ⟨congrArg (fun n => Ending.returned (Value.int IntKind.i64 n)) ?_, rfl⟩
      rw [loopN_pair]
      simp only [pair0, pair1] at *
      split <;> first | omega | (simp; omega) | (simp; done)
  all_goals
    go_enter Tryz.func123, Tryz.ntmps123
    go_wp2_with fail
    all_goals
      first
      | (exfalso; simp_all; omega)
      | (go_ret
         exact ⟨rfl, rfl⟩)
end Go.Proofs.YthojdoiffkdikaaGreatDoor
end
