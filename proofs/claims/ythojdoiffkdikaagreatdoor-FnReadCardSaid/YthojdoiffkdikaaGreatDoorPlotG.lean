/- A text cut at its spaces: the library's cutting is the same; a loop that cuts. Plain theory. The steps of words, with fuel that is enough. Plain theory. -/
import Derived.Test.YthojdoiffkdikaaGreatDoorPlotF
import Derived.Lib.SplitLaws
import Derived.Lib.IndexLaws
import Derived.Lib.IndexBytes
section -- a part
namespace Go.PlotT

/-- A string of these bytes. -/
def bstr (l : Wd) : Value := .string ⟨l.toArray⟩
theorem bstr_data (s : ByteArray) : bstr s.data.toList = .string s := by rw [bstr, Lib.mk_data]

theorem splitK_cut : ∀ (n : Nat) (l : Wd), l.length ≤ n → Lib.splitK [32] 0 (Lib.count l [32]) l = cutW l
  | n, l, hn => by
    rcases Classical.em (32 ∈ l) with h | h
    · obtain ⟨i, hi⟩ : ∃ i : Nat, Lib.index l [32] = i := by
        have hge := Lib.index_ge l [32]
        rcases Classical.em (Lib.index l [32] = -1) with e | e
        · rw [Lib.index_one] at e
          obtain ⟨k, hk, hx⟩ := List.getElem_of_mem h
          exact absurd (by rw [List.getElem?_eq_getElem hk, hx]) (Lib.indexByte_none e k)
        · exact ⟨(Lib.index l [32]).toNat, by omega⟩
      have hi' := hi
      rw [Lib.index_one] at hi'
      obtain ⟨h1, h2⟩ := Lib.indexByte_some hi'
      obtain ⟨hlt, hx⟩ := List.getElem?_eq_some_iff.1 h1
      have hnot : 32 ∉ l.take i := fun e => by
        obtain ⟨k, hk, hy⟩ := List.getElem_of_mem e
        rw [List.length_take] at hk
        rw [List.getElem_take] at hy
        exact h2 k (by omega) (by rw [List.getElem?_eq_getElem (by omega), hy])
      have hcut : cutW l = l.take i :: cutW (l.drop (i + 1)) := by
        conv => lhs; rw [← List.take_append_drop i l, List.drop_eq_getElem_cons hlt, hx]
        exact cutW_append _ hnot _
      obtain ⟨n, rfl⟩ : ∃ m, n = m + 1 := ⟨n - 1, by omega⟩
      have ih := splitK_cut n (l.drop (i + 1)) (by simp; omega)
      rw [Lib.count_hit (by simp) hi, Nat.add_comm 1, Lib.splitK, hi, if_neg (by simp)]
      simp only [Int.toNat_natCast, Nat.add_zero, List.length_cons, List.length_nil, Nat.zero_add] at ih ⊢
      rw [ih, hcut]
    · have e : Lib.index l [32] = -1 := by
        have hge := Lib.index_ge l [32]
        rcases Classical.em (Lib.index l [32] = -1) with e | e
        · exact e
        · obtain ⟨i, hi⟩ : ∃ i : Nat, Lib.index l [32] = i := ⟨(Lib.index l [32]).toNat, by omega⟩
          rw [Lib.index_one] at hi
          exact absurd (List.mem_of_getElem? (Lib.indexByte_some hi).1) h
      rw [Lib.count_miss e, Lib.splitK, cutW_word l h]
termination_by n => n
/-- What strings.Split returns at a space. -/
theorem splitB_cut (s : ByteArray) : (Lib.splitB ⟨#[32]⟩ 0 (Lib.countB s ⟨#[32]⟩) s).map Value.string = (cutW s.data.toList).map bstr := by
  have h := Lib.splitB_data ⟨#[32]⟩ 0 (Lib.countB s ⟨#[32]⟩) s
  have h2 := splitK_cut _ s.data.toList (Nat.le_refl _)
  have h3 : Lib.splitK (⟨#[32]⟩ : ByteArray).data.toList 0 (Lib.countB s ⟨#[32]⟩) s.data.toList = cutW s.data.toList := h2
  rw [← h3, ← h, List.map_map]
  apply List.map_congr_left
  intro x _
  exact (bstr_data x).symm
theorem countB_cut (s : ByteArray) : Lib.countB s ⟨#[32]⟩ + 1 = (cutW s.data.toList).length := by
  have h := congrArg List.length (splitB_cut s)
  rw [List.length_map, List.length_map, Lib.splitB_all _ (by decide) 0 _ s rfl] at h
  exact h

/-- A loop that cuts: what has been cut, where the word at hand begins, where the loop is. -/
def CutAt (l : Wd) (done : List Wd) (a i : Nat) : Prop :=
  (i ≤ l.length ∧ a ≤ i ∧ done ++ cutW (l.drop a) = cutW l ∧ 32 ∉ (l.drop a).take (i - a)) ∨ (i = l.length + 1 ∧ done = cutW l)
theorem CutAt.start (l : Wd) : CutAt l [] 0 0 := Or.inl ⟨Nat.zero_le _, Nat.le_refl _, rfl, by simp⟩
theorem CutAt.over {l : Wd} {done : List Wd} {a i : Nat} (h : CutAt l done a i) (hi : l.length < i) : done = cutW l := by
  rcases h with ⟨h, -⟩ | ⟨-, h⟩
  · omega
  · exact h
theorem CutAt.le {l : Wd} {done : List Wd} {a i : Nat} (h : CutAt l done a i) (hi : i ≤ l.length) : a ≤ i := by
  rcases h with ⟨-, h, -⟩ | ⟨h, -⟩ <;> omega
theorem CutAt.ends {l : Wd} {done : List Wd} {a : Nat} (h : CutAt l done a l.length) : CutAt l (done ++ [(l.drop a).take (l.length - a)]) (l.length + 1) (l.length + 1) := by
  rcases h with ⟨-, h1, h2, h3⟩ | ⟨h, -⟩
  · refine Or.inr ⟨rfl, ?_⟩
    rw [List.take_of_length_le (by simp)] at h3 ⊢
    rw [← h2, cutW_word _ h3]
  · omega
theorem CutAt.cut {l : Wd} {done : List Wd} {a i : Nat} (h : CutAt l done a i) (hx : l[i]? = some 32) : CutAt l (done ++ [(l.drop a).take (i - a)]) (i + 1) (i + 1) := by
  obtain ⟨hlt, hx⟩ := List.getElem?_eq_some_iff.1 hx
  rcases h with ⟨-, h1, h2, h3⟩ | ⟨h, -⟩
  · refine Or.inl ⟨by omega, Nat.le_refl _, ?_, by simp⟩
    rw [← h2, List.append_assoc, List.singleton_append]
    congr 1
    have e : l.drop a = (l.drop a).take (i - a) ++ 32 :: l.drop (i + 1) := by
      conv => lhs; rw [← List.take_append_drop (i - a) (l.drop a), List.drop_drop, show a + (i - a) = i by omega, List.drop_eq_getElem_cons hlt, hx]
    conv => rhs; rw [e]
    exact (cutW_append _ h3 _).symm
  · omega
theorem CutAt.on {l : Wd} {done : List Wd} {a i : Nat} {x : UInt8} (h : CutAt l done a i) (hx : l[i]? = some x) (hne : x ≠ 32) : CutAt l done a (i + 1) := by
  obtain ⟨hlt, hx⟩ := List.getElem?_eq_some_iff.1 hx
  rcases h with ⟨-, h1, h2, h3⟩ | ⟨h, -⟩
  · refine Or.inl ⟨by omega, by omega, h2, ?_⟩
    rw [show i + 1 - a = (i - a) + 1 by omega, List.take_add_one]
    intro e
    rcases List.mem_append.1 e with e | e
    · exact h3 e
    · rw [List.getElem?_drop, show a + (i - a) = i by omega, List.getElem?_eq_getElem hlt, hx] at e
      simp at e
      exact hne e.symm
  · omega
end Go.PlotT
end
section -- a part
namespace Go.PlotT

/-- The steps of words up to the end or to a bracket, and what is left of the words. -/
def fl (ws : List Wd) (ins : Bool) (acc : List Wd) : Option (List Wd × List Wd) := flat (ws.length + 1) ws ins acc
theorem flat_fl {f : Nat} {ws : List Wd} {ins : Bool} {acc : List Wd} (h : ws.length < f) : flat f ws ins acc = fl ws ins acc := flat_fuel (ws.length + 1) _ _ ws ins acc (by omega) (by omega) (Nat.le_refl _)
theorem fl_nil (ins : Bool) (acc : List Wd) : fl [] ins acc = if ins || acc.isEmpty then none else some (acc, []) := rfl
theorem fl_step {w : Wd} {r : List Wd} {ins : Bool} {acc : List Wd} (h : isSt w = true) : fl (w :: r) ins acc = if 500 < (acc ++ [w]).length then none else fl r ins (acc ++ [w]) := by
  rw [fl, List.length_cons, flat, if_pos h]; rfl
theorem fl_bracket {r : List Wd} {ins : Bool} {acc : List Wd} : fl ([93] :: r) ins acc = if ins = true ∧ acc ≠ [] then some (acc, r) else none := by
  rw [fl, List.length_cons, flat, if_neg (by decide), if_neg (by decide)]
  simp
theorem fl_bad {w : Wd} {r : List Wd} {ins : Bool} {acc : List Wd} (h : isSt w = false) (h0 : loopN w = 0) (h9 : w ≠ [93]) : fl (w :: r) ins acc = none := by
  rw [fl, List.length_cons, flat, if_neg (by rw [h]; decide), if_neg (by omega), if_neg (fun e => h9 e.1)]
theorem isSt_of_loop {w : Wd} (h : 0 < loopN w) : isSt w = false := by
  rcases Bool.eq_false_or_eq_true (isSt w) with e | e
  · rw [loopN_of_isSt e] at h; omega
  · exact e
theorem fl_loop_none {w : Wd} {r : List Wd} {ins : Bool} {acc : List Wd} (h : 0 < loopN w) (hn : fl r true [] = none) : fl (w :: r) ins acc = none := by
  have hs : ¬ isSt w = true := by rw [isSt_of_loop h]; decide
  rw [fl, List.length_cons, flat, if_neg hs, if_pos h, flat_fl (by omega), hn]
theorem fl_loop_some {w : Wd} {r : List Wd} {ins : Bool} {acc body r' : List Wd} (h : 0 < loopN w) (hn : fl r true [] = some (body, r')) :
    fl (w :: r) ins acc = if 500 < (acc ++ (List.replicate (loopN w) body).flatten).length then none else fl r' ins (acc ++ (List.replicate (loopN w) body).flatten) := by
  have hs : ¬ isSt w = true := by rw [isSt_of_loop h]; decide
  have hl := (flat_some _ _ _ _ _ _ hn).2.2.2 rfl
  rw [fl, List.length_cons, flat, if_neg hs, if_pos h, flat_fl (by omega), hn]
  simp only
  rw [flat_fl (by omega)]
theorem loopN_le (w : Wd) : loopN w ≤ 9 := by
  rcases Nat.eq_zero_or_pos (loopN w) with h | h
  · omega
  · obtain ⟨d, rfl, h1, h2⟩ := loopN_two h
    have h3 : d.toNat ≤ 57 := by simpa [UInt8.le_iff_toNat_le] using h2
    simp only [loopN]
    split <;> omega
/-- What is left of the words is their end. -/
theorem fl_rest {ws : List Wd} {ins : Bool} {acc o r : List Wd} (h : fl ws ins acc = some (o, r)) : r.length ≤ ws.length ∧ r = ws.drop (ws.length - r.length) ∧ o ≠ [] ∧ (ins = true → r.length < ws.length) := by
  obtain ⟨⟨p, e, -⟩, h2, -, h4⟩ := flat_some _ _ _ _ _ _ h
  have hl : ws.length = p.length + r.length := by rw [e, List.length_append]
  refine ⟨by omega, ?_, h2, h4⟩
  rw [show ws.length - r.length = p.length by omega, e, List.drop_left]
/-- All that is written are steps, 500 at most. -/
theorem flat_steps : ∀ (f : Nat) (ws : List Wd) (ins : Bool) (acc o r : List Wd), (∀ w ∈ acc, isSt w = true) → acc.length ≤ 500 → flat f ws ins acc = some (o, r) → (∀ w ∈ o, isSt w = true) ∧ o.length ≤ 500
  | 0, _, _, _, _, _, _, _, h => by simp [flat] at h
  | f + 1, [], ins, acc, o, r, ha, hl, h => by
    unfold flat at h
    split at h
    · simp at h
    · simp only [Option.some.injEq, Prod.mk.injEq] at h
      rw [← h.1]; exact ⟨ha, hl⟩
  | f + 1, w :: ws, ins, acc, o, r, ha, hl, h => by
    unfold flat at h
    split at h
    · next hs =>
      split at h
      · simp at h
      · next hle =>
        refine flat_steps f _ _ _ _ _ ?_ (by omega) h
        intro x hx
        rcases List.mem_append.1 hx with hx | hx
        · exact ha x hx
        · rw [List.mem_singleton.1 hx]; exact hs
    · split at h
      · split at h
        · simp at h
        · next body r' hb =>
          split at h
          · simp at h
          · next hle =>
            have hb' := flat_steps f _ _ _ _ _ (by simp) (by simp) hb
            refine flat_steps f _ _ _ _ _ ?_ (by omega) h
            intro x hx
            rcases List.mem_append.1 hx with hx | hx
            · exact ha x hx
            · obtain ⟨y, hy, hx⟩ := List.mem_flatten.1 hx
              rw [List.eq_of_mem_replicate hy] at hx
              exact hb'.1 x hx
      · split at h
        · simp only [Option.some.injEq, Prod.mk.injEq] at h
          rw [← h.1]; exact ⟨ha, hl⟩
        · simp at h
theorem fl_steps {ws : List Wd} {ins : Bool} {o r : List Wd} (h : fl ws ins [] = some (o, r)) : (∀ w ∈ o, isSt w = true) ∧ o.length ≤ 500 := flat_steps _ _ _ _ _ _ (by simp) (by simp) h
/-- The bytes of steps. -/
theorem steps_bytes : ∀ {o : List Wd}, (∀ w ∈ o, isSt w = true) → o.flatten.map (fun c => [c]) = o ∧ o.flatten.length = o.length
  | [], _ => by simp
  | w :: o, h => by
    have ih := steps_bytes (o := o) (fun x hx => h x (by simp [hx]))
    obtain ⟨c, rfl⟩ := isSt_one (h w (by simp))
    simp only [List.flatten_cons, List.map_append, List.map_cons, List.map_nil, List.length_append, List.length_cons, List.length_nil]
    exact ⟨by rw [ih.1]; rfl, by rw [ih.2]; omega⟩
theorem prog_eq (s : Wd) : prog s = if 400 < s.length then none else (fl (cutW s) false []).map (·.1) := by
  have := cutW_length s
  rw [prog, flat_fl (by omega)]
theorem prog_nil : prog [] = none := by decide

/-- Whether all words are steps. -/
def allSt (ws : List Wd) : Bool := ws.all isSt
/-- The folded program of words that are steps; of a text. -/
def foldW (ws : List Wd) : Wd := jn ((grp ws).flatMap gs)
def foldOk (s : Wd) : Bool := (prog s).isSome && allSt (cutW s)
/-- The program's own condition is the same. -/
theorem foldOk_r (s : Wd) : foldOk s = ((prog s).isSome && !decide (114 ∈ s)) := by
  unfold foldOk
  cases hp : prog s with
  | none => rfl
  | some o =>
    simp only [Option.isSome_some, Bool.true_and]
    by_cases hr : 114 ∈ s
    · obtain ⟨w, hw, h⟩ := prog_loop hp hr
      have : ¬ allSt (cutW s) = true := fun e => by
        rw [allSt, List.all_eq_true] at e
        rw [e w hw] at h; cases h
      simp [hr, this]
    · have := (prog_plain hp hr).1
      simp [hr, allSt, List.all_eq_true.2 this]
theorem fold_prog {s : Wd} {o : List Wd} (hp : prog s = some o) (hr : 114 ∉ s) : jn ((grp o.flatten).map gw) = foldW (cutW s) := by
  obtain ⟨h1, rfl⟩ := prog_plain hp hr
  rw [← fold_same, (steps_bytes h1).1]; rfl
/-- The folded program is no longer, and has the same steps. -/
theorem fold_flat {s : Wd} {o : List Wd} (hp : prog s = some o) (hr : 114 ∉ s) : (foldW (cutW s)).length ≤ s.length ∧ prog (foldW (cutW s)) = some o := by
  obtain ⟨h1, rfl⟩ := prog_plain hp hr
  obtain ⟨h2, h3⟩ := steps_bytes h1
  have hlen : (foldW (cutW s)).length ≤ s.length := by
    have := fold_length (cutW s).flatten
    rw [← fold_same, h2] at this
    unfold foldW
    rw [show jn (cutW s) = s from cutW_join s] at this
    exact this
  refine ⟨hlen, ?_⟩
  have hs : ¬ 400 < s.length := fun e => by rw [prog_eq, if_pos e] at hp; cases hp
  rw [prog_eq, if_neg hs] at hp
  obtain ⟨⟨a, b⟩, hp, e⟩ := Option.map_eq_some_iff.1 hp
  simp only at e
  subst e
  have h500 := (fl_steps hp).2
  have hmem : ∀ x ∈ grp (cutW s), isSt x.1 = true ∧ 1 ≤ x.2 ∧ x.2 ≤ 9 := fun x hx => ⟨h1 _ (grp_mem _ x hx), grp_pos _ x hx⟩
  have hne : grp (cutW s) ≠ [] := grp_ne (cutW_ne s)
  have hcut : cutW (foldW (cutW s)) = (grp (cutW s)).flatMap gs := by
    refine cutW_jn ?_ ?_
    · obtain ⟨x, G, e⟩ := List.exists_cons_of_ne_nil hne
      rw [e, List.flatMap_cons]
      have := gs_ne x (grp_pos _ x (by rw [e]; simp)).1
      simp [this]
    · intro w hw
      obtain ⟨x, hx, hw⟩ := List.mem_flatMap.1 hw
      obtain ⟨i1, i2, i3⟩ := hmem x hx
      have i4 : 32 ∉ x.1 := by
        obtain ⟨c, e⟩ := isSt_one i1
        rw [e] at i1 ⊢
        intro e2
        rw [← List.mem_singleton.1 e2] at i1
        revert i1; decide
      unfold gs at hw
      split at hw
      · rcases List.mem_cons.1 hw with rfl | hw
        · obtain ⟨c, n⟩ := x
          simp only at i2 i3 ⊢
          have : n = 1 ∨ n = 2 ∨ n = 3 ∨ n = 4 ∨ n = 5 ∨ n = 6 ∨ n = 7 ∨ n = 8 ∨ n = 9 := by omega
          rcases this with rfl | rfl | rfl | rfl | rfl | rfl | rfl | rfl | rfl <;> decide
        · rcases List.mem_cons.1 hw with rfl | hw
          · exact i4
          · rw [List.mem_singleton.1 hw]; decide
      · rw [List.eq_of_mem_replicate hw]; exact i4
  rw [prog_eq, if_neg (by omega), hcut]
  have e := flat_fold (grp (cutW s)) (9 * (grp (cutW s)).length + 12 + ((grp (cutW s)).flatMap gs).length) [] hmem (by omega) (by rw [List.nil_append, grp_flat]; exact h500) (by rw [List.nil_append, grp_flat]; exact cutW_ne s)
  rw [flat_fl (by omega), List.nil_append, grp_flat] at e
  rw [e]; rfl
end Go.PlotT
end
