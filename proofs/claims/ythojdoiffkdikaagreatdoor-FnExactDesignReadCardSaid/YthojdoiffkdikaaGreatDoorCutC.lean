/- A text cut at its spaces: the library's cutting is the same; a loop that cuts. Plain theory. A text cut at a byte: the library's cutting is the same; a loop that cuts. Plain theory. -/
import Derived.Test.YthojdoiffkdikaaGreatDoorPlotF
import Derived.Lib.SplitLaws
import Derived.Lib.IndexLaws
import Derived.Lib.IndexBytes
import Derived.Lib.Join
section -- a part
namespace Go.PlotT

/-- A string of these bytes. -/
def bstr (l : Wd) : Value := .string ⟨l.toArray⟩
theorem bstr_data (s : ByteArray) : bstr s.data.toList = .string s := by rw [bstr, Lib.mk_data]

theorem splitK_cut : ∀ (n : Nat) (l : Wd), l.length ≤ n → Lib.splitK [32] 0 (Lib.count l [32]) l = cutW l
  | n, l, hn => by
    rcases Classical.em (32 ∈ l) with h | h
    · obtain ⟨i, hi⟩ : ∃ i : Nat, Lib.index l [32] = i := by
        have hge := Lib.index_ge l [32]
        rcases Classical.em (Lib.index l [32] = -1) with e | e
        · rw [Lib.index_one] at e
          obtain ⟨k, hk, hx⟩ := List.getElem_of_mem h
          exact absurd (by rw [List.getElem?_eq_getElem hk, hx]) (Lib.indexByte_none e k)
        · exact ⟨(Lib.index l [32]).toNat, by omega⟩
      have hi' := hi
      rw [Lib.index_one] at hi'
      obtain ⟨h1, h2⟩ := Lib.indexByte_some hi'
      obtain ⟨hlt, hx⟩ := List.getElem?_eq_some_iff.1 h1
      have hnot : 32 ∉ l.take i := fun e => by
        obtain ⟨k, hk, hy⟩ := List.getElem_of_mem e
        rw [List.length_take] at hk
        rw [List.getElem_take] at hy
        exact h2 k (by omega) (by rw [List.getElem?_eq_getElem (by omega), hy])
      have hcut : cutW l = l.take i :: cutW (l.drop (i + 1)) := by
        conv => lhs; rw [← List.take_append_drop i l, List.drop_eq_getElem_cons hlt, hx]
        exact cutW_append _ hnot _
      obtain ⟨n, rfl⟩ : ∃ m, n = m + 1 := ⟨n - 1, by omega⟩
      have ih := splitK_cut n (l.drop (i + 1)) (by simp; omega)
      rw [Lib.count_hit (by simp) hi, Nat.add_comm 1, Lib.splitK, hi, if_neg (by simp)]
      simp only [Int.toNat_natCast, Nat.add_zero, List.length_cons, List.length_nil, Nat.zero_add] at ih ⊢
      rw [ih, hcut]
    · have e : Lib.index l [32] = -1 := by
        have hge := Lib.index_ge l [32]
        rcases Classical.em (Lib.index l [32] = -1) with e | e
        · exact e
        · obtain ⟨i, hi⟩ : ∃ i : Nat, Lib.index l [32] = i := ⟨(Lib.index l [32]).toNat, by omega⟩
          rw [Lib.index_one] at hi
          exact absurd (List.mem_of_getElem? (Lib.indexByte_some hi).1) h
      rw [Lib.count_miss e, Lib.splitK, cutW_word l h]
termination_by n => n
/-- What strings.Split returns at a space. -/
theorem splitB_cut (s : ByteArray) : (Lib.splitB ⟨#[32]⟩ 0 (Lib.countB s ⟨#[32]⟩) s).map Value.string = (cutW s.data.toList).map bstr := by
  have h := Lib.splitB_data ⟨#[32]⟩ 0 (Lib.countB s ⟨#[32]⟩) s
  have h2 := splitK_cut _ s.data.toList (Nat.le_refl _)
  have h3 : Lib.splitK (⟨#[32]⟩ : ByteArray).data.toList 0 (Lib.countB s ⟨#[32]⟩) s.data.toList = cutW s.data.toList := h2
  rw [← h3, ← h, List.map_map]
  apply List.map_congr_left
  intro x _
  exact (bstr_data x).symm
theorem countB_cut (s : ByteArray) : Lib.countB s ⟨#[32]⟩ + 1 = (cutW s.data.toList).length := by
  have h := congrArg List.length (splitB_cut s)
  rw [List.length_map, List.length_map, Lib.splitB_all _ (by decide) 0 _ s rfl] at h
  exact h

/-- A loop that cuts: what has been cut, where the word at hand begins, where the loop is. -/
def CutAt (l : Wd) (done : List Wd) (a i : Nat) : Prop :=
  (i ≤ l.length ∧ a ≤ i ∧ done ++ cutW (l.drop a) = cutW l ∧ 32 ∉ (l.drop a).take (i - a)) ∨ (i = l.length + 1 ∧ done = cutW l)
theorem CutAt.start (l : Wd) : CutAt l [] 0 0 := Or.inl ⟨Nat.zero_le _, Nat.le_refl _, rfl, by simp⟩
theorem CutAt.over {l : Wd} {done : List Wd} {a i : Nat} (h : CutAt l done a i) (hi : l.length < i) : done = cutW l := by
  rcases h with ⟨h, -⟩ | ⟨-, h⟩
  · omega
  · exact h
theorem CutAt.le {l : Wd} {done : List Wd} {a i : Nat} (h : CutAt l done a i) (hi : i ≤ l.length) : a ≤ i := by
  rcases h with ⟨-, h, -⟩ | ⟨h, -⟩ <;> omega
theorem CutAt.ends {l : Wd} {done : List Wd} {a : Nat} (h : CutAt l done a l.length) : CutAt l (done ++ [(l.drop a).take (l.length - a)]) (l.length + 1) (l.length + 1) := by
  rcases h with ⟨-, h1, h2, h3⟩ | ⟨h, -⟩
  · refine Or.inr ⟨rfl, ?_⟩
    rw [List.take_of_length_le (by simp)] at h3 ⊢
    rw [← h2, cutW_word _ h3]
  · omega
theorem CutAt.cut {l : Wd} {done : List Wd} {a i : Nat} (h : CutAt l done a i) (hx : l[i]? = some 32) : CutAt l (done ++ [(l.drop a).take (i - a)]) (i + 1) (i + 1) := by
  obtain ⟨hlt, hx⟩ := List.getElem?_eq_some_iff.1 hx
  rcases h with ⟨-, h1, h2, h3⟩ | ⟨h, -⟩
  · refine Or.inl ⟨by omega, Nat.le_refl _, ?_, by simp⟩
    rw [← h2, List.append_assoc, List.singleton_append]
    congr 1
    have e : l.drop a = (l.drop a).take (i - a) ++ 32 :: l.drop (i + 1) := by
      conv => lhs; rw [← List.take_append_drop (i - a) (l.drop a), List.drop_drop, show a + (i - a) = i by omega, List.drop_eq_getElem_cons hlt, hx]
    conv => rhs; rw [e]
    exact (cutW_append _ h3 _).symm
  · omega
theorem CutAt.on {l : Wd} {done : List Wd} {a i : Nat} {x : UInt8} (h : CutAt l done a i) (hx : l[i]? = some x) (hne : x ≠ 32) : CutAt l done a (i + 1) := by
  obtain ⟨hlt, hx⟩ := List.getElem?_eq_some_iff.1 hx
  rcases h with ⟨-, h1, h2, h3⟩ | ⟨h, -⟩
  · refine Or.inl ⟨by omega, by omega, h2, ?_⟩
    rw [show i + 1 - a = (i - a) + 1 by omega, List.take_add_one]
    intro e
    rcases List.mem_append.1 e with e | e
    · exact h3 e
    · rw [List.getElem?_drop, show a + (i - a) = i by omega, List.getElem?_eq_getElem hlt, hx] at e
      simp at e
      exact hne e.symm
  · omega
end Go.PlotT
end
section -- a part
namespace Go.PlotT
variable {c : UInt8}

/-- A text cut at a byte. -/
def cutC (c : UInt8) : Wd → List Wd
  | [] => [[]]
  | x :: t => if x = c then [] :: cutC c t else match cutC c t with
    | [] => [[x]]
    | h :: r => (x :: h) :: r
theorem cutC_ne : ∀ s, cutC c s ≠ []
  | [] => by simp [cutC]
  | x :: t => by
    have := cutC_ne t
    unfold cutC; split
    · simp
    · split <;> simp
theorem cutC_append : ∀ (a : Wd), c ∉ a → ∀ (t : Wd), cutC c (a ++ c :: t) = a :: cutC c t
  | [], _, t => by simp [cutC]
  | x :: a, h, t => by
    have hx : x ≠ c := fun e => h (by simp [e])
    rw [List.cons_append, cutC, if_neg hx, cutC_append a (fun e => h (by simp [e])) t]
theorem cutC_word : ∀ (a : Wd), c ∉ a → cutC c a = [a]
  | [], _ => rfl
  | x :: a, h => by
    have hx : x ≠ c := fun e => h (by simp [e])
    rw [cutC, if_neg hx, cutC_word a (fun e => h (by simp [e]))]
theorem cutC_join : ∀ {ws : List Wd}, ws ≠ [] → (∀ w ∈ ws, c ∉ w) → cutC c (Lib.join ws [c]) = ws
  | [], h, _ => absurd rfl h
  | [a], _, h => by rw [Lib.join_one, cutC_word a (h a (by simp))]
  | a :: b :: r, _, h => by
    have e : Lib.join (a :: b :: r) [c] = a ++ c :: Lib.join (b :: r) [c] := by
      rw [Lib.join_cons, Lib.join_cons]
      simp [Lib.joinTail]
    rw [e, cutC_append a (h a (by simp)), cutC_join (by simp) fun w hw => h w (by simp [hw])]
theorem cutC_length : ∀ (s : Wd), (cutC c s).length ≤ s.length + 1
  | [] => by simp [cutC]
  | x :: t => by
    have ih := cutC_length t
    unfold cutC
    split
    · simp; omega
    · split
      · simp
      · next e => rw [e] at ih; simp at ih ⊢; omega
theorem cutC_mem : ∀ (s : Wd), ∀ w ∈ cutC c s, w.length ≤ s.length
  | [] => by simp [cutC]
  | x :: t => by
    have ih := cutC_mem t
    unfold cutC
    split
    · intro w hw
      rcases List.mem_cons.1 hw with rfl | hw
      · simp
      · have := ih w hw; simp; omega
    · split
      · simp
      · next e =>
        rw [e] at ih
        intro w hw
        rcases List.mem_cons.1 hw with rfl | hw
        · have := ih _ (List.mem_cons_self); simp; omega
        · have := ih w (by simp [hw]); simp; omega
theorem splitK_cutC : ∀ (n : Nat) (l : Wd), l.length ≤ n → Lib.splitK [c] 0 (Lib.count l [c]) l = cutC c l
  | n, l, hn => by
    rcases Classical.em (c ∈ l) with h | h
    · obtain ⟨i, hi⟩ : ∃ i : Nat, Lib.index l [c] = i := by
        have hge := Lib.index_ge l [c]
        rcases Classical.em (Lib.index l [c] = -1) with e | e
        · rw [Lib.index_one] at e
          obtain ⟨k, hk, hx⟩ := List.getElem_of_mem h
          exact absurd (by rw [List.getElem?_eq_getElem hk, hx]) (Lib.indexByte_none e k)
        · exact ⟨(Lib.index l [c]).toNat, by omega⟩
      have hi' := hi
      rw [Lib.index_one] at hi'
      obtain ⟨h1, h2⟩ := Lib.indexByte_some hi'
      obtain ⟨hlt, hx⟩ := List.getElem?_eq_some_iff.1 h1
      have hnot : c ∉ l.take i := fun e => by
        obtain ⟨k, hk, hy⟩ := List.getElem_of_mem e
        rw [List.length_take] at hk
        rw [List.getElem_take] at hy
        exact h2 k (by omega) (by rw [List.getElem?_eq_getElem (by omega), hy])
      have hcut : cutC c l = l.take i :: cutC c (l.drop (i + 1)) := by
        conv => lhs; rw [← List.take_append_drop i l, List.drop_eq_getElem_cons hlt, hx]
        exact cutC_append _ hnot _
      obtain ⟨n, rfl⟩ : ∃ m, n = m + 1 := ⟨n - 1, by omega⟩
      have ih := splitK_cutC n (l.drop (i + 1)) (by simp; omega)
      rw [Lib.count_hit (by simp) hi, Nat.add_comm 1, Lib.splitK, hi, if_neg (by simp)]
      simp only [Int.toNat_natCast, Nat.add_zero, List.length_cons, List.length_nil, Nat.zero_add] at ih ⊢
      rw [ih, hcut]
    · have e : Lib.index l [c] = -1 := by
        have hge := Lib.index_ge l [c]
        rcases Classical.em (Lib.index l [c] = -1) with e | e
        · exact e
        · obtain ⟨i, hi⟩ : ∃ i : Nat, Lib.index l [c] = i := ⟨(Lib.index l [c]).toNat, by omega⟩
          rw [Lib.index_one] at hi
          exact absurd (List.mem_of_getElem? (Lib.indexByte_some hi).1) h
      rw [Lib.count_miss e, Lib.splitK, cutC_word l h]
termination_by n => n
/-- What strings.Split returns at a space. -/
theorem splitB_cutC (s : ByteArray) : (Lib.splitB ⟨#[c]⟩ 0 (Lib.countB s ⟨#[c]⟩) s).map Value.string = (cutC c s.data.toList).map bstr := by
  have h := Lib.splitB_data ⟨#[c]⟩ 0 (Lib.countB s ⟨#[c]⟩) s
  have h2 := splitK_cutC (c := c) _ s.data.toList (Nat.le_refl _)
  have h3 : Lib.splitK (⟨#[c]⟩ : ByteArray).data.toList 0 (Lib.countB s ⟨#[c]⟩) s.data.toList = cutC c s.data.toList := h2
  rw [← h3, ← h, List.map_map]
  apply List.map_congr_left
  intro x _
  exact (bstr_data x).symm
theorem countB_cutC (s : ByteArray) : Lib.countB s ⟨#[c]⟩ + 1 = (cutC c s.data.toList).length := by
  have h := congrArg List.length (splitB_cutC (c := c) s)
  rw [List.length_map, List.length_map, Lib.splitB_all _ (show 1 ≤ (⟨#[c]⟩ : ByteArray).size from Nat.le_refl _) 0 _ s rfl] at h
  exact h

theorem cutC_hit {l : Wd} {i : Nat} (h : Lib.indexByte l c = i) : cutC c l = l.take i :: cutC c (l.drop (i + 1)) := by
  obtain ⟨h1, h2⟩ := Lib.indexByte_some h
  obtain ⟨hlt, hx⟩ := List.getElem?_eq_some_iff.1 h1
  have hnot : c ∉ l.take i := fun e => by
    obtain ⟨k, hk, hy⟩ := List.getElem_of_mem e
    rw [List.length_take] at hk
    rw [List.getElem_take] at hy
    exact h2 k (by omega) (by rw [List.getElem?_eq_getElem (by omega), hy])
  conv => lhs; rw [← List.take_append_drop i l, List.drop_eq_getElem_cons hlt, hx]
  exact cutC_append _ hnot _
theorem cutC_miss {l : Wd} (h : Lib.indexByte l c = -1) : cutC c l = [l] :=
  cutC_word l fun e => by
    obtain ⟨k, hk, hx⟩ := List.getElem_of_mem e
    exact Lib.indexByte_none h k (by rw [List.getElem?_eq_getElem hk, hx])
theorem indexByte_lt {l : Wd} {i : Nat} (h : Lib.indexByte l c = i) : i < l.length := (List.getElem?_eq_some_iff.1 (Lib.indexByte_some h).1).1

/-- A loop that cuts: what has been cut, where the word at hand begins, where the loop is. -/
def CutAtC (c : UInt8) (l : Wd) (done : List Wd) (a i : Nat) : Prop :=
  (i ≤ l.length ∧ a ≤ i ∧ done ++ cutC c (l.drop a) = cutC c l ∧ c ∉ (l.drop a).take (i - a)) ∨ (i = l.length + 1 ∧ done = cutC c l)
theorem CutAtC.start (l : Wd) : CutAtC c l [] 0 0 := Or.inl ⟨Nat.zero_le _, Nat.le_refl _, rfl, by simp⟩
theorem CutAtC.over {l : Wd} {done : List Wd} {a i : Nat} (h : CutAtC c l done a i) (hi : l.length < i) : done = cutC c l := by
  rcases h with ⟨h, -⟩ | ⟨-, h⟩
  · omega
  · exact h
theorem CutAtC.le {l : Wd} {done : List Wd} {a i : Nat} (h : CutAtC c l done a i) (hi : i ≤ l.length) : a ≤ i := by
  rcases h with ⟨-, h, -⟩ | ⟨h, -⟩ <;> omega
theorem CutAtC.ends {l : Wd} {done : List Wd} {a : Nat} (h : CutAtC c l done a l.length) : CutAtC c l (done ++ [(l.drop a).take (l.length - a)]) (l.length + 1) (l.length + 1) := by
  rcases h with ⟨-, h1, h2, h3⟩ | ⟨h, -⟩
  · refine Or.inr ⟨rfl, ?_⟩
    rw [List.take_of_length_le (by simp)] at h3 ⊢
    rw [← h2, cutC_word _ h3]
  · omega
theorem CutAtC.cut {l : Wd} {done : List Wd} {a i : Nat} (h : CutAtC c l done a i) (hx : l[i]? = some c) : CutAtC c l (done ++ [(l.drop a).take (i - a)]) (i + 1) (i + 1) := by
  obtain ⟨hlt, hx⟩ := List.getElem?_eq_some_iff.1 hx
  rcases h with ⟨-, h1, h2, h3⟩ | ⟨h, -⟩
  · refine Or.inl ⟨by omega, Nat.le_refl _, ?_, by simp⟩
    rw [← h2, List.append_assoc, List.singleton_append]
    congr 1
    have e : l.drop a = (l.drop a).take (i - a) ++ c :: l.drop (i + 1) := by
      conv => lhs; rw [← List.take_append_drop (i - a) (l.drop a), List.drop_drop, show a + (i - a) = i by omega, List.drop_eq_getElem_cons hlt, hx]
    conv => rhs; rw [e]
    exact (cutC_append _ h3 _).symm
  · omega
theorem CutAtC.on {l : Wd} {done : List Wd} {a i : Nat} {x : UInt8} (h : CutAtC c l done a i) (hx : l[i]? = some x) (hne : x ≠ c) : CutAtC c l done a (i + 1) := by
  obtain ⟨hlt, hx⟩ := List.getElem?_eq_some_iff.1 hx
  rcases h with ⟨-, h1, h2, h3⟩ | ⟨h, -⟩
  · refine Or.inl ⟨by omega, by omega, h2, ?_⟩
    rw [show i + 1 - a = (i - a) + 1 by omega, List.take_add_one]
    intro e
    rcases List.mem_append.1 e with e | e
    · exact h3 e
    · rw [List.getElem?_drop, show a + (i - a) = i by omega, List.getElem?_eq_getElem hlt, hx] at e
      simp at e
      exact hne e.symm
  · omega
end Go.PlotT
end
