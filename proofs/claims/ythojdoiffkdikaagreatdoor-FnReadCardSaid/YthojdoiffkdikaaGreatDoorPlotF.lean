/- Folding of programs: plain theory, no program in sight. -/
import Derived.Test.YthojdoiffkdikaaGreatDoorPlotA
namespace Go.PlotT

/-- How many of the first m are c. -/
def lead {α : Type} [DecidableEq α] (c : α) : Nat → List α → Nat
  | 0, _ => 0
  | _ + 1, [] => 0
  | m + 1, x :: t => if x = c then 1 + lead c m t else 0
section
variable {α : Type} [DecidableEq α]
theorem lead_le (c : α) : ∀ m t, lead c m t ≤ m
  | 0, _ => by simp [lead]
  | _ + 1, [] => by simp [lead]
  | m + 1, x :: t => by
    have := lead_le c m t
    unfold lead; split <;> omega
theorem lead_le_len (c : α) : ∀ m t, lead c m t ≤ t.length
  | 0, _ => by simp [lead]
  | _ + 1, [] => by simp [lead]
  | m + 1, x :: t => by
    have := lead_le_len c m t
    unfold lead; split <;> simp <;> omega
theorem lead_take (c : α) : ∀ m t, t.take (lead c m t) = List.replicate (lead c m t) c
  | 0, _ => by simp [lead]
  | _ + 1, [] => by simp [lead]
  | m + 1, x :: t => by
    have := lead_take c m t
    unfold lead; split
    · next h => subst h; rw [Nat.add_comm, List.take_succ_cons, this, List.replicate_succ]
    · simp
/-- One more of them, and no more of them. -/
theorem lead_more {c : α} {m : Nat} {l : List α} {k : Nat} (h : l[k]? = some c) : lead c (m + 1) (l.drop k) = 1 + lead c m (l.drop (k + 1)) := by
  obtain ⟨hk, hx⟩ := List.getElem?_eq_some_iff.1 h
  rw [List.drop_eq_getElem_cons hk, lead, hx, if_pos rfl]
theorem lead_stop {c x : α} {m : Nat} {l : List α} {k : Nat} (h : l[k]? = some x) (hx : x ≠ c) : lead c m (l.drop k) = 0 := by
  obtain ⟨hk, hy⟩ := List.getElem?_eq_some_iff.1 h
  rw [List.drop_eq_getElem_cons hk, hy]
  cases m with
  | zero => rfl
  | succ m => rw [lead, if_neg hx]
theorem lead_end {c : α} {m : Nat} {l : List α} {k : Nat} (h : l.length ≤ k) : lead c m (l.drop k) = 0 := by
  rw [List.drop_eq_nil_of_le h]; cases m <;> rfl

/-- The groups of equal ones, nine at most. -/
def runs : Nat → List α → List (α × Nat)
  | 0, _ => []
  | _ + 1, [] => []
  | f + 1, c :: t => (c, 1 + lead c 8 t) :: runs f (t.drop (lead c 8 t))
theorem runs_fuel : ∀ (n f g : Nat) (l : List α), l.length ≤ n → n ≤ f → n ≤ g → runs f l = runs g l
  | 0, f, g, l, h, _, _ => by
    obtain rfl := List.length_eq_zero_iff.1 (by omega : l.length = 0)
    cases f <;> cases g <;> rfl
  | n + 1, f, g, [], _, hf, hg => by cases f <;> cases g <;> rfl
  | n + 1, f, g, c :: t, h, hf, hg => by
    obtain ⟨f, rfl⟩ : ∃ x, f = x + 1 := ⟨f - 1, by omega⟩
    obtain ⟨g, rfl⟩ : ∃ x, g = x + 1 := ⟨g - 1, by omega⟩
    simp only [List.length_cons] at h
    unfold runs
    rw [runs_fuel n f g _ (by simp; omega) (by omega) (by omega)]
def grp (l : List α) : List (α × Nat) := runs l.length l
theorem grp_nil : grp ([] : List α) = [] := rfl
theorem grp_cons (c : α) (t : List α) : grp (c :: t) = (c, 1 + lead c 8 t) :: grp (t.drop (lead c 8 t)) := by
  unfold grp
  rw [List.length_cons, runs]
  rw [runs_fuel (t.drop (lead c 8 t)).length t.length (t.drop (lead c 8 t)).length _ (Nat.le_refl _) (by simp) (Nat.le_refl _)]
theorem grp_drop {l : List α} {i : Nat} {c : α} (h : l[i]? = some c) {n : Nat} (hn : n = 1 + lead c 8 (l.drop (i + 1))) : grp (l.drop i) = (c, n) :: grp (l.drop (i + n)) := by
  obtain ⟨hk, hy⟩ := List.getElem?_eq_some_iff.1 h
  rw [List.drop_eq_getElem_cons hk, hy, grp_cons, List.drop_drop, hn]
  congr 3
  omega
theorem grp_ind {motive : List α → Prop} (h0 : motive []) (h1 : ∀ c t, motive (t.drop (lead c 8 t)) → motive (c :: t)) : ∀ l, motive l := by
  have : ∀ (n : Nat) (l : List α), l.length ≤ n → motive l := by
    intro n
    induction n with
    | zero => intro l h; rw [List.length_eq_zero_iff.1 (by omega : l.length = 0)]; exact h0
    | succ n ih =>
      intro l h
      cases l with
      | nil => exact h0
      | cons c t =>
        simp only [List.length_cons] at h
        exact h1 c t (ih _ (by simp; omega))
  exact fun l => this l.length l (Nat.le_refl _)
theorem grp_pos (l : List α) : ∀ x ∈ grp l, 1 ≤ x.2 ∧ x.2 ≤ 9 := by
  induction l using grp_ind with
  | h0 => simp [grp_nil]
  | h1 c t ih =>
    intro x hx
    rw [grp_cons] at hx
    rcases List.mem_cons.1 hx with rfl | hx
    · have := lead_le c 8 t; exact ⟨by simp, by simp; omega⟩
    · exact ih x hx
theorem grp_mem (l : List α) : ∀ x ∈ grp l, x.1 ∈ l := by
  induction l using grp_ind with
  | h0 => simp [grp_nil]
  | h1 c t ih =>
    intro x hx
    rw [grp_cons] at hx
    rcases List.mem_cons.1 hx with rfl | hx
    · simp
    · exact List.mem_cons_of_mem _ (List.mem_of_mem_drop (ih x hx))
/-- All groups, written out, are the whole. -/
theorem grp_flat (l : List α) : (grp l).flatMap (fun x => List.replicate x.2 x.1) = l := by
  induction l using grp_ind with
  | h0 => simp [grp_nil]
  | h1 c t ih =>
    rw [grp_cons, List.flatMap_cons, ih]
    simp only [Nat.add_comm 1, List.replicate_succ, List.cons_append]
    rw [← lead_take, List.take_append_drop]
theorem grp_ne {l : List α} (h : l ≠ []) : grp l ≠ [] := by
  cases l with
  | nil => exact absurd rfl h
  | cons c t => rw [grp_cons]; simp
end
theorem lead_map (c : UInt8) : ∀ (m : Nat) (t : List UInt8), lead [c] m (t.map fun x => [x]) = lead c m t
  | 0, _ => rfl
  | _ + 1, [] => rfl
  | m + 1, x :: t => by
    have := lead_map c m t
    simp only [List.map_cons, lead, List.cons.injEq, and_true, this]
theorem grp_map (l : List UInt8) : grp (l.map fun c => [c]) = (grp l).map fun x => ([x.1], x.2) := by
  induction l using grp_ind with
  | h0 => rfl
  | h1 c t ih =>
    rw [List.map_cons, grp_cons, grp_cons, List.map_cons, lead_map, ← List.map_drop, ih]

/-- Words joined by spaces. -/
abbrev jn (l : List Wd) : Wd := [32].intercalate l
theorem jn_nil : jn [] = [] := rfl
theorem jn_one (a : Wd) : jn [a] = a := by simp [jn, List.intercalate, List.intersperse]
theorem jn_cons (a b : Wd) (l : List Wd) : jn (a :: b :: l) = a ++ 32 :: jn (b :: l) := by simp [jn, List.intercalate, List.intersperse]
theorem jn_cons' (a : Wd) {l : List Wd} (h : l ≠ []) : jn (a :: l) = a ++ 32 :: jn l := by
  cases l with
  | nil => exact absurd rfl h
  | cons b l => exact jn_cons a b l
theorem jn_append : ∀ {a b : List Wd}, a ≠ [] → b ≠ [] → jn (a ++ b) = jn a ++ 32 :: jn b
  | [], _, h, _ => absurd rfl h
  | [x], b, _, hb => by rw [List.singleton_append, jn_cons' x hb, jn_one]
  | x :: y :: a, b, _, hb => by
    have := jn_append (a := y :: a) (by simp) hb
    rw [List.cons_append, jn_cons' x (by simp), this, jn_cons, List.append_assoc]; rfl
theorem jn_snoc {a : List Wd} (x : Wd) (h : a ≠ []) : jn (a ++ [x]) = jn a ++ 32 :: x := by rw [jn_append h (by simp), jn_one]
theorem jn_flatten : ∀ {L : List (List Wd)}, (∀ x ∈ L, x ≠ []) → jn L.flatten = jn (L.map jn)
  | [], _ => rfl
  | [a], _ => by simp
  | a :: b :: L, h => by
    have ih := jn_flatten (L := b :: L) (fun x hx => h x (by simp [hx]))
    rw [List.flatten_cons, jn_append (h a (by simp)) (by
      have := h b (by simp)
      simp [this]), ih]
    simp only [List.map_cons, jn_cons]
theorem jn_length_le {β : Type} {f g : β → Wd} : ∀ {L : List β}, (∀ x ∈ L, (f x).length ≤ (g x).length) → (jn (L.map f)).length ≤ (jn (L.map g)).length
  | [], _ => by simp
  | [a], h => by simpa [jn_one] using h a (by simp)
  | a :: b :: L, h => by
    have ih := jn_length_le (f := f) (g := g) (L := b :: L) (fun x hx => h x (by simp [hx]))
    have h1 := h a (by simp)
    simp only [List.map_cons] at ih ⊢
    rw [jn_cons, jn_cons]
    simp only [List.length_append, List.length_cons]
    omega
theorem cutW_append : ∀ (a : Wd), 32 ∉ a → ∀ (t : Wd), cutW (a ++ 32 :: t) = a :: cutW t
  | [], _, t => by simp [cutW]
  | c :: a, h, t => by
    have ih := cutW_append a (fun e => h (by simp [e])) t
    have hc : ¬ c = 32 := fun e => h (by simp [e])
    rw [List.cons_append, cutW, if_neg hc, ih]
theorem cutW_word : ∀ (a : Wd), 32 ∉ a → cutW a = [a]
  | [], _ => rfl
  | c :: a, h => by
    have ih := cutW_word a (fun e => h (by simp [e]))
    have hc : ¬ c = 32 := fun e => h (by simp [e])
    rw [cutW, if_neg hc, ih]
theorem cutW_jn : ∀ {ws : List Wd}, ws ≠ [] → (∀ w ∈ ws, 32 ∉ w) → cutW (jn ws) = ws
  | [], h, _ => absurd rfl h
  | [a], _, h => by rw [jn_one, cutW_word a (h a (by simp))]
  | a :: b :: l, _, h => by
    rw [jn_cons, cutW_append a (h a (by simp)), cutW_jn (by simp) (fun w hw => h w (by simp [hw]))]

/-- A group as the program writes it, and as words of the reference. -/
def rep (c : UInt8) (n : Nat) : Wd := (List.replicate n [c, 32]).flatten
def gw (x : UInt8 × Nat) : Wd := if 6 < 2 * x.2 - 1 then [114, UInt8.ofNat (48 + x.2), 32, x.1, 32, 93] else (rep x.1 x.2).take (2 * x.2 - 1)
def gs (x : Wd × Nat) : List Wd := if 6 < 2 * x.2 - 1 then [[114, UInt8.ofNat (48 + x.2)], x.1, [93]] else List.replicate x.2 x.1
theorem rep_length (c : UInt8) (n : Nat) : (rep c n).length = 2 * n := by
  induction n with
  | zero => rfl
  | succ n ih => simp only [rep, List.replicate_succ, List.flatten_cons, List.length_append, List.length_cons, List.length_nil] at ih ⊢; omega
theorem rep_take (c : UInt8) : ∀ n, (rep c (n + 1)).take (2 * (n + 1) - 1) = jn (List.replicate (n + 1) [c])
  | 0 => by simp [rep]
  | n + 1 => by
    have ih := rep_take c n
    rw [show rep c (n + 1 + 1) = c :: 32 :: rep c (n + 1) by simp [rep, List.replicate_succ], show 2 * (n + 1 + 1) - 1 = 2 * (n + 1) - 1 + 1 + 1 by omega, List.take_succ_cons, List.take_succ_cons, ih, show List.replicate (n + 1 + 1) [c] = [c] :: List.replicate (n + 1) [c] from rfl, jn_cons' [c] (by simp)]
    rfl
theorem gs_ne (x : Wd × Nat) (h : 1 ≤ x.2) : gs x ≠ [] := by
  unfold gs; split
  · simp
  · simp; omega
theorem gw_gs (x : UInt8 × Nat) (h : 1 ≤ x.2) : gw x = jn (gs ([x.1], x.2)) := by
  obtain ⟨c, n⟩ := x
  unfold gw gs
  split
  · simp [jn, List.intercalate, List.intersperse]
  · obtain ⟨m, rfl⟩ : ∃ m, n = m + 1 := ⟨n - 1, by simp at h; omega⟩
    exact rep_take c m
/-- What the program writes is what the reference writes. -/
theorem fold_same (l : List UInt8) : jn ((grp (l.map fun c => [c])).flatMap gs) = jn ((grp l).map gw) := by
  rw [List.flatMap_def, jn_flatten]
  · rw [grp_map, List.map_map, List.map_map]
    congr 1
    apply List.map_congr_left
    intro x hx
    rw [gw_gs x (grp_pos l x hx).1]
    rfl
  · intro x hx
    obtain ⟨y, hy, rfl⟩ := List.mem_map.1 hx
    exact gs_ne y (grp_pos _ y hy).1
theorem gw_length (x : UInt8 × Nat) (h : 1 ≤ x.2) : (gw x).length ≤ (jn (List.replicate x.2 [x.1])).length := by
  obtain ⟨c, n⟩ := x
  simp only at h
  obtain ⟨m, rfl⟩ : ∃ m, n = m + 1 := ⟨n - 1, by omega⟩
  rw [← rep_take, List.length_take, rep_length]
  unfold gw; split
  · simp only at *; simp; omega
  · simp only [List.length_take, rep_length]; omega
/-- It is no longer. -/
theorem fold_length (l : List UInt8) : (jn ((grp l).map gw)).length ≤ (jn (l.map fun c => [c])).length := by
  have h1 := jn_length_le (f := gw) (g := fun x => jn (List.replicate x.2 [x.1])) (L := grp l) (fun x hx => gw_length x (grp_pos l x hx).1)
  refine Nat.le_trans h1 (Nat.le_of_eq ?_)
  congr 1
  have h2 : (l.map fun c => [c]) = ((grp l).map fun x => List.replicate x.2 [x.1]).flatten := by
    conv => lhs; rw [← grp_flat l]
    rw [List.map_flatMap, List.flatMap_def]
    congr 1
    apply List.map_congr_left
    intro x _
    simp
  rw [h2, jn_flatten, List.map_map]
  · rfl
  · intro y hy
    obtain ⟨x, hx, rfl⟩ := List.mem_map.1 hy
    have := (grp_pos l x hx).1
    simp; omega
/-- The folded program's steps. -/
theorem flat_group (f : Nat) (w : Wd) (n : Nat) (r acc : List Wd) (hw : isSt w = true) (h1 : 1 ≤ n) (h9 : n ≤ 9) (hf : 12 ≤ f) (hlen : acc.length + n ≤ 500) :
    ∃ g, f ≤ g + 9 ∧ (∀ ins, flat f (gs (w, n) ++ r) ins acc = flat g r ins (acc ++ List.replicate n w)) := by
  unfold gs
  split
  · next h6 =>
    simp only at h6
    obtain ⟨f, rfl⟩ : ∃ x, f = x + 4 := ⟨f - 4, by omega⟩
    refine ⟨f + 3, by omega, fun ins => ?_⟩
    have hl : loopN [114, UInt8.ofNat (48 + n)] = n := by
      have : n = 4 ∨ n = 5 ∨ n = 6 ∨ n = 7 ∨ n = 8 ∨ n = 9 := by omega
      rcases this with rfl | rfl | rfl | rfl | rfl | rfl <;> decide
    have hb : flat (f + 3) (w :: [93] :: r) true [] = some ([w], r) := by
      have e93 : isSt [93] = false := by decide
      have l93 : ¬ 0 < loopN [93] := by decide
      rw [flat, if_pos hw, if_neg (by simp), flat, e93, if_neg (by simp), if_neg l93, if_pos (by simp)]
      simp
    rw [List.cons_append, List.cons_append, List.cons_append, List.nil_append, flat]
    rw [if_neg (by simp [isSt]), if_pos (by rw [hl]; omega), hb, hl]
    have e : (List.replicate n [w]).flatten = List.replicate n w := by simp
    simp only [e]
    rw [if_neg (by simp; omega)]
  · have : ∀ (n f : Nat) (acc : List Wd), n + 1 ≤ f → acc.length + n ≤ 500 → ∀ ins, flat f (List.replicate n w ++ r) ins acc = flat (f - n) r ins (acc ++ List.replicate n w) := by
      intro n
      induction n with
      | zero => intro f acc _ _ ins; simp
      | succ n ih =>
        intro f acc h hl ins
        obtain ⟨f, rfl⟩ : ∃ x, f = x + 1 := ⟨f - 1, by omega⟩
        rw [List.replicate_succ, List.cons_append, flat, if_pos hw, if_neg (by simp; omega), ih f _ (by omega) (by simp; omega)]
        rw [List.append_assoc, List.singleton_append, show f + 1 - (n + 1) = f - n by omega]
    exact ⟨f - n, by omega, fun ins => this n f acc (by omega) hlen ins⟩
theorem flat_fold : ∀ (G : List (Wd × Nat)) (f : Nat) (acc : List Wd), (∀ x ∈ G, isSt x.1 = true ∧ 1 ≤ x.2 ∧ x.2 ≤ 9) → 9 * G.length + 12 ≤ f → (acc ++ G.flatMap fun x => List.replicate x.2 x.1).length ≤ 500 →
    (acc ++ G.flatMap fun x => List.replicate x.2 x.1) ≠ [] → flat f (G.flatMap gs) false acc = some (acc ++ G.flatMap fun x => List.replicate x.2 x.1, [])
  | [], f, acc, _, hf, _, hne => by
    obtain ⟨f, rfl⟩ : ∃ x, f = x + 1 := ⟨f - 1, by omega⟩
    simp only [List.flatMap_nil, List.append_nil] at hne ⊢
    rw [flat, if_neg (by simpa using hne)]
  | x :: G, f, acc, hG, hf, hl, hne => by
    obtain ⟨h1, h2, h3⟩ := hG x (by simp)
    simp only [List.flatMap_cons, List.length_append, List.length_replicate, List.length_cons] at hl hf hne ⊢
    obtain ⟨g, hg, e⟩ := flat_group f x.1 x.2 (G.flatMap gs) acc h1 h2 h3 (by omega) (by omega)
    rw [e, flat_fold G g _ (fun y hy => hG y (by simp [hy])) (by omega) (by simp only [List.length_append, List.length_replicate]; omega) (by simpa using hne), List.append_assoc]
end Go.PlotT
