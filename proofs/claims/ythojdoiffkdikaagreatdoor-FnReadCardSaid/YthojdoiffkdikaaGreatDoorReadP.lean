/- Designs read from texts: plain theory. Both readers know the same texts: those of tidy designs. -/
import Derived.Test.YthojdoiffkdikaaGreatDoorPlotA
import Derived.Test.YthojdoiffkdikaaGreatDoorCutC
import Derived.Lib.AtoiAllCases
import Derived.Lib.CutLaws
namespace Go.Proofs.YthojdoiffkdikaaGreatDoor
open Go.RowKit Go.PlotT

/-- A number's digits, read one by one. -/
def digN (l : Tx) : Nat := l.foldl (fun n b => if 48 ≤ b.toNat ∧ b.toNat ≤ 57 then 10 * n + (b.toNat - 48) else n) 0
def sgN (l : Tx) : Int := if l.head? = some 45 then -1 else 1
def numS (l : Tx) : Int := sgN l * digN (l.take 9)
theorem digN_snoc (l : Tx) (b : UInt8) : digN (l ++ [b]) = if 48 ≤ b.toNat ∧ b.toNat ≤ 57 then 10 * digN l + (b.toNat - 48) else digN l := by
  unfold digN; rw [List.foldl_append]; rfl
theorem digN_lt : ∀ (n : Nat) (l : Tx), l.length = n → digN l < 10 ^ n
  | 0, l, h => by rw [List.length_eq_zero_iff.1 h]; decide
  | n + 1, l, h => by
    have hne : l ≠ [] := by intro e; rw [e] at h; cases h
    have e := List.dropLast_concat_getLast hne
    have ih := digN_lt n l.dropLast (by rw [List.length_dropLast]; omega)
    rw [← e, digN_snoc, Nat.pow_succ]
    split <;> omega
theorem dec_digit : ∀ (u : Nat), ∀ b ∈ Lib.decDigits u, 48 ≤ b.toNat ∧ b.toNat ≤ 57 := by
  intro u
  induction u using Nat.strongRecOn with
  | _ u ih =>
    intro b hb
    rw [Lib.decDigits] at hb
    have key : ∀ d : Nat, d < 10 → 48 ≤ (UInt8.ofNat (48 + d)).toNat ∧ (UInt8.ofNat (48 + d)).toNat ≤ 57 := by decide +kernel
    split at hb
    · next h =>
      rw [List.mem_singleton] at hb; subst hb
      exact key u h
    · rcases List.mem_append.1 hb with hb | hb
      · exact ih (u / 10) (by omega) b hb
      · rw [List.mem_singleton] at hb; subst hb
        exact key (u % 10) (by omega)
theorem dig_of : ∀ d : Nat, d < 10 → (UInt8.ofNat (48 + d)).toNat = 48 + d := by decide +kernel
theorem digN_dec : ∀ (u : Nat), digN (Lib.decDigits u) = u := by
  intro u
  induction u using Nat.strongRecOn with
  | _ u ih =>
    rw [Lib.decDigits]
    split
    · next h =>
      have := digN_snoc [] (UInt8.ofNat (48 + u))
      rw [List.nil_append, dig_of u h] at this
      rw [this, if_pos (by omega)]; show 10 * 0 + _ = _; omega
    · next h =>
      rw [digN_snoc, dig_of _ (by omega), if_pos (by omega), ih (u / 10) (by omega)]; omega
theorem dec_ne (u : Nat) : Lib.decDigits u ≠ [] := by
  rw [Lib.decDigits]; split <;> simp
theorem itoa_bytes (n : Int) : ∀ b ∈ Lib.itoa n, b.toNat = 45 ∨ (48 ≤ b.toNat ∧ b.toNat ≤ 57) := by
  intro b hb
  unfold Lib.itoa at hb
  split at hb
  · rcases List.mem_cons.1 hb with rfl | hb
    · exact Or.inl rfl
    · exact Or.inr (dec_digit _ b hb)
  · exact Or.inr (dec_digit _ b hb)
theorem itoa_not (n : Int) (c : UInt8) (hc : c.toNat ≠ 45 ∧ (c.toNat < 48 ∨ 57 < c.toNat)) : c ∉ Lib.itoa n := fun h => by
  have := itoa_bytes n c h; omega
theorem dec_len7 (u : Nat) (h : u ≤ 1000000) : (Lib.decDigits u).length ≤ 7 := by
  rw [Lib.decDigits_length]; exact nDigits_le 6 u (by omega)
theorem numS_itoa (n : Int) (h0 : -1000000 ≤ n) (h1 : n ≤ 1000000) : numS (Lib.itoa n) = n := by
  unfold Lib.itoa
  split
  · have hl := dec_len7 n.natAbs (by omega)
    have e : (45 :: Lib.decDigits n.natAbs).take 9 = 45 :: Lib.decDigits n.natAbs := List.take_of_length_le (by simp; omega)
    have e2 : digN (45 :: Lib.decDigits n.natAbs) = digN (Lib.decDigits n.natAbs) := rfl
    rw [numS, e, e2, digN_dec]
    show -1 * _ = _
    omega
  · have hl := dec_len7 n.toNat (by omega)
    have e : (Lib.decDigits n.toNat).take 9 = Lib.decDigits n.toNat := List.take_of_length_le (by omega)
    have hs : sgN (Lib.decDigits n.toNat) = 1 := by
      unfold sgN
      rw [if_neg]
      intro h
      have := dec_digit n.toNat 45 (List.mem_of_mem_head? h)
      exact absurd this.1 (by decide)
    rw [numS, e, hs, digN_dec]
    omega
theorem parseUint10_app : ∀ (a b : Tx) (acc : Nat), Lib.parseUint10 acc (a ++ b) = match Lib.parseUint10 acc a with | .ok v => Lib.parseUint10 v b | .syntax => .syntax | .range => .range
  | [], b, acc => rfl
  | c :: a, b, acc => by
    rw [List.cons_append]
    simp only [Lib.parseUint10]
    split
    · split
      · rfl
      · split
        · rfl
        · exact parseUint10_app a b _
    · rfl
theorem parseUint10_dec : ∀ (u : Nat), u ≤ 1000000000 → Lib.parseUint10 0 (Lib.decDigits u) = .ok u := by
  intro u
  induction u using Nat.strongRecOn with
  | _ u ih =>
    intro hu
    rw [Lib.decDigits]
    split
    · next h =>
      simp only [Lib.parseUint10, dig_of u h]
      rw [if_pos (by omega), if_neg (by omega), if_neg (by omega)]
      congr 1; omega
    · next h =>
      rw [parseUint10_app, ih (u / 10) (by omega) (by omega)]
      simp only [Lib.parseUint10, dig_of (u % 10) (by omega)]
      rw [if_pos (by omega), if_neg (by omega), if_neg (by omega)]
      congr 1; omega
theorem parseMag_dec (u : Nat) (h : u ≤ 1000000000) : Lib.parseMag (Lib.decDigits u) = .ok u := by
  rw [Lib.parseMag, if_neg (dec_ne u), parseUint10_dec u h]
theorem atoi_itoa (n : Int) (h0 : -1000000000 ≤ n) (h1 : n ≤ 1000000000) : Lib.atoiAll (Lib.itoa n) = .ok n := by
  unfold Lib.itoa
  split
  · rw [Lib.atoiAll_minus, parseMag_dec _ (by omega)]
    show (if _ then _ else _) = _
    rw [if_neg (by omega)]
    congr 1; omega
  · cases hd : Lib.decDigits n.toNat with
    | nil => exact absurd hd (dec_ne _)
    | cons c r =>
      have hc := dec_digit n.toNat c (by rw [hd]; simp)
      rw [Lib.atoiAll_plain c r (by omega) (by omega), ← hd, parseMag_dec _ (by omega)]
      show (if _ then _ else _) = _
      rw [if_neg (by omega)]
      congr 1; omega
/-- Numbers of a radius. -/
def radOf (f : Tx → Int) (ns : List Tx) : C8 := ⟨f (ns.getD 0 []), f (ns.getD 1 []), f (ns.getD 2 []), f (ns.getD 3 []), f (ns.getD 4 []), f (ns.getD 5 []), f (ns.getD 6 []), f (ns.getD 7 [])⟩
/-- The reference's wheel of a word. -/
def wordS (l : Tx) : Option W9 :=
  if (cutC 58 l).length = 2 then
    if (cutC 44 ((cutC 58 l).getD 1 [])).length = 8 then some ⟨numS ((cutC 58 l).getD 0 []), radOf numS (cutC 44 ((cutC 58 l).getD 1 []))⟩ else none
  else none
/-- The program's wheel of a word. -/
def isOk (l : Tx) : Bool := match Lib.atoiAll l with | .ok _ => true | _ => false
def numI (l : Tx) : Int := match Lib.atoiAll l with | .ok v => v | _ => 0
def wordI (l : Tx) : Option W9 :=
  if (cutC 44 (Lib.cut l [58]).2.1).length = 8 then
    if isOk (Lib.cut l [58]).1 = true then
      if (cutC 44 (Lib.cut l [58]).2.1).all isOk = true then some ⟨numI (Lib.cut l [58]).1, radOf numI (cutC 44 (Lib.cut l [58]).2.1)⟩ else none
    else none
  else none
def prs (f : Tx → Option W9) : List Tx → Option (List W9)
  | [] => some []
  | a :: r => (f a).bind fun x => (prs f r).map (x :: ·)
theorem prs_map {f : Tx → Option W9} : ∀ (xs : List W9), (∀ x ∈ xs, f (wt x) = some x) → prs f (xs.map wt) = some xs
  | [], _ => rfl
  | x :: xs, h => by
    rw [List.map_cons, prs, h x (by simp), prs_map xs fun y hy => h y (by simp [hy])]; rfl
theorem prs_none {f : Tx → Option W9} : ∀ {ws : List Tx} {a : Tx}, a ∈ ws → f a = none → prs f ws = none
  | b :: r, a, ha, h => by
    rw [prs]
    rcases List.mem_cons.1 ha with rfl | ha
    · rw [h]; rfl
    · rw [prs_none ha h]; cases f b <;> rfl
theorem prs_snoc {f : Tx → Option W9} : ∀ {ws : List Tx} {out : List W9} {a : Tx} {x : W9}, prs f ws = some out → f a = some x → prs f (ws ++ [a]) = some (out ++ [x])
  | [], out, a, x, h, hx => by
    cases h
    show (f a).bind _ = _
    rw [hx]; rfl
  | b :: r, out, a, x, h, hx => by
    rw [prs] at h
    cases hb : f b with
    | none => rw [hb] at h; cases h
    | some y =>
      rw [hb] at h
      cases hr : prs f r with
      | none => rw [hr] at h; cases h
      | some o =>
        rw [hr] at h
        cases h
        rw [List.cons_append, prs, hb, prs_snoc hr hx]; rfl
/-- A loop that reads words. -/
theorem prs_step {f : Tx → Option W9} {ws : List Tx} {k : Nat} {out : List W9} {a : Tx} (hk : ws[k]? = some a) (h : prs f ws = (prs f (ws.drop k)).map (out ++ ·)) :
    (∀ x, f a = some x → prs f ws = (prs f (ws.drop (k + 1))).map ((out ++ [x]) ++ ·)) ∧ (f a = none → prs f ws = none) := by
  obtain ⟨hlt, rfl⟩ := List.getElem?_eq_some_iff.1 hk
  rw [List.drop_eq_getElem_cons hlt, prs] at h
  constructor
  · intro x hx
    rw [h, hx]
    cases prs f (ws.drop (k + 1)) <;> simp
  · intro hx
    rw [h, hx]; rfl
theorem C8.eta (c : C8) : (⟨c.g 0, c.g 1, c.g 2, c.g 3, c.g 4, c.g 5, c.g 6, c.g 7⟩ : C8) = c := rfl
theorem radOf_nums {f : Tx → Int} {c : C8} (h : ∀ k, k < 8 → f (Lib.itoa (c.g k)) = c.g k) : radOf f (numsT c) = c := by
  refine Eq.trans ?_ (C8.eta c)
  rw [← h 0 (by omega), ← h 1 (by omega), ← h 2 (by omega), ← h 3 (by omega), ← h 4 (by omega), ← h 5 (by omega), ← h 6 (by omega), ← h 7 (by omega)]
  simp only [h 0 (by omega), h 1 (by omega), h 2 (by omega), h 3 (by omega), h 4 (by omega), h 5 (by omega), h 6 (by omega), h 7 (by omega)]
  have e : ∀ k, k < 8 → f ((numsT c).getD k []) = c.g k := fun k hk => by
    rw [List.getD_eq_getElem?_getD, numsT_get c hk]; exact h k hk
  unfold radOf
  rw [e 0 (by omega), e 1 (by omega), e 2 (by omega), e 3 (by omega), e 4 (by omega), e 5 (by omega), e 6 (by omega), e 7 (by omega)]
theorem join_not {c d : UInt8} {ys : List Tx} (hd : c ≠ d) (h : ∀ y ∈ ys, c ∉ y) : c ∉ Lib.join ys [d] := by
  cases ys with
  | nil => simp [Lib.join_nil]
  | cons y r =>
    rw [Lib.join_cons]
    intro hm
    rcases List.mem_append.1 hm with hm | hm
    · exact h y (by simp) hm
    · simp only [Lib.joinTail, List.mem_flatten, List.mem_map] at hm
      obtain ⟨l, ⟨z, hz, rfl⟩, hl⟩ := hm
      rcases List.mem_append.1 hl with hl | hl
      · exact hd (List.mem_singleton.1 hl)
      · exact h z (by simp [hz]) hl
theorem nums_not {c : C8} {d : UInt8} (hd : d.toNat ≠ 45 ∧ (d.toNat < 48 ∨ 57 < d.toNat)) : ∀ y ∈ numsT c, d ∉ y := by
  intro y hy
  obtain ⟨n, -, rfl⟩ := List.mem_map.1 hy
  exact itoa_not n d hd
theorem nums_ne (c : C8) : numsT c ≠ [] := by intro e; have := numsT_len c; rw [e] at this; cases this
theorem cut_wt58 (x : W9) : cutC 58 (wt x) = [Lib.itoa x.s, Lib.join (numsT x.r) [44]] := by
  rw [wt, cutC_append _ (itoa_not _ _ (by decide)), cutC_word _ (join_not (by decide) (nums_not (by decide)))]
theorem cut_nums (x : W9) : cutC 44 (Lib.join (numsT x.r) [44]) = numsT x.r := cutC_join (nums_ne _) (nums_not (by decide))
theorem wordS_wt {x : W9} (hs : -1000 ≤ x.s ∧ x.s ≤ 1000) (hok : okC x.r = true) : wordS (wt x) = some x := by
  rw [wordS, cut_wt58]
  simp only [List.getD_cons_zero, List.getD_cons_succ, List.length_cons, List.length_nil]
  rw [cut_nums, if_pos trivial, if_pos (numsT_len _), numS_itoa _ (by omega) (by omega), radOf_nums fun k hk => numS_itoa _ (okC_g hok hk).1 (okC_g hok hk).2]
theorem libcut_wt (x : W9) : Lib.cut (wt x) [58] = (Lib.itoa x.s, Lib.join (numsT x.r) [44], true) := by
  have hi : Lib.index (wt x) [58] = ((Lib.itoa x.s).length : Nat) := by
    rw [Lib.index_one]
    have hge := Lib.indexByte_ge (wt x) 58
    have h58 : (wt x)[(Lib.itoa x.s).length]? = some 58 := by rw [wt, List.getElem?_append_right (Nat.le_refl _), Nat.sub_self]; rfl
    rcases Classical.em (Lib.indexByte (wt x) 58 = -1) with e | e
    · exact absurd h58 (Lib.indexByte_none e _)
    · obtain ⟨i, hi⟩ : ∃ i : Nat, Lib.indexByte (wt x) 58 = i := ⟨(Lib.indexByte (wt x) 58).toNat, by omega⟩
      obtain ⟨h1, h2⟩ := Lib.indexByte_some hi
      have hle : i ≤ (Lib.itoa x.s).length := by
        rcases Nat.lt_or_ge (Lib.itoa x.s).length i with h | h
        · exact absurd h58 (h2 _ h)
        · exact h
      rcases Nat.lt_or_ge i (Lib.itoa x.s).length with h | h
      · rw [wt, List.getElem?_append_left h] at h1
        exact absurd (List.mem_of_getElem? h1) (itoa_not _ _ (by decide))
      · rw [hi, show i = (Lib.itoa x.s).length by omega]
  unfold Lib.cut
  rw [hi, if_pos (by omega)]
  simp only [Int.toNat_natCast, List.length_cons, List.length_nil]
  rw [wt, List.take_left' rfl, List.drop_append, List.drop_of_length_le (by omega)]
  simp [Nat.add_sub_cancel_left]
theorem wordI_wt {x : W9} (hs : -1000 ≤ x.s ∧ x.s ≤ 1000) (hok : okC x.r = true) : wordI (wt x) = some x := by
  rw [wordI, libcut_wt]
  have h1 : ∀ n : Int, -1000000000 ≤ n → n ≤ 1000000000 → isOk (Lib.itoa n) = true ∧ numI (Lib.itoa n) = n := fun n h0 h1 => by
    unfold isOk numI; rw [atoi_itoa n h0 h1]; exact ⟨rfl, rfl⟩
  have h2 : (numsT x.r).all isOk = true := by
    rw [List.all_eq_true]
    intro y hy
    obtain ⟨k, hk, rfl⟩ := List.getElem_of_mem hy
    rw [numsT_len] at hk
    have e := numsT_get x.r hk
    rw [List.getElem?_eq_getElem (by rw [numsT_len]; exact hk)] at e
    rw [Option.some.inj e]
    have := okC_g hok hk
    exact (h1 _ (by omega) (by omega)).1
  simp only
  rw [cut_nums, if_pos (numsT_len _), if_pos (h1 _ (by omega) (by omega)).1, if_pos h2, (h1 _ (by omega) (by omega)).2, radOf_nums fun k hk => by have := okC_g hok hk; exact (h1 _ (by omega) (by omega)).2]
theorem wt_not (x : W9) : (32 : UInt8) ∉ wt x := by
  rw [wt]
  intro h
  rcases List.mem_append.1 h with h | h
  · exact itoa_not _ _ (by decide) h
  · rcases List.mem_cons.1 h with h | h
    · exact absurd h (by decide)
    · exact join_not (by decide) (nums_not (by decide)) h
theorem cut_dt {t : List W9} (h : t ≠ []) : cutC 32 (dt t) = t.map wt := by
  rw [dt, if_neg h]
  refine cutC_join (by simpa using h) ?_
  intro y hy
  obtain ⟨x, -, rfl⟩ := List.mem_map.1 hy
  exact wt_not x
def parseS (l : Tx) : Option (List W9) := prs wordS (cutC 32 l)
def parseI (l : Tx) : Option (List W9) := prs wordI (cutC 32 l)
/-- What both readers return. -/
def readS (l : Tx) : Option (List W9) :=
  if 1500 < l.length then none else if l = [45] then some [] else (parseS l).bind fun out => if textR out = some l then some out else none
def readI (l : Tx) : Option (List W9) :=
  if 1500 < l.length then none else (if l = [45] then some [] else parseI l).bind fun d => (tidyR d).bind fun t => if dt t = l then some t else none
/-- Tidy designs stay as they are. -/
theorem tyS_app : ∀ (r acc : List W9), Srt (acc ++ r) → (∀ x ∈ r, okC x.r = true) → tyS acc r = some (acc ++ r)
  | [], acc, _, _ => by rw [tyS, List.append_nil]
  | w :: r, acc, h, hok => by
    have hlt : ∀ x ∈ acc, x.s < w.s := fun x hx => (List.pairwise_append.1 h).2.2 x hx w (by simp)
    have e1 : sumAt acc w = w.r := sumAt_none fun x hx => by have := hlt x hx; omega
    have e2 : addS acc w = acc ++ [w] := by
      clear h hok e1
      induction acc with
      | nil => rfl
      | cons x l ih =>
        rw [addS, if_pos (hlt x (by simp)), ih fun y hy => hlt y (by simp [hy])]; rfl
    rw [tyS, e1, if_pos (hok w (by simp)), e2, tyS_app r (acc ++ [w]) (by rw [List.append_assoc]; exact h) fun x hx => hok x (by simp [hx]), List.append_assoc]; rfl
theorem tidyR_srt {ds t : List W9} (h : tidyR ds = some t) : dvOk t = true ∧ Srt t ∧ keepW t = t := by
  refine ⟨tidyR_ok h, ?_⟩
  unfold tidyR at h
  split at h
  · unfold tdR at h
    cases hy : tyS [] ds with
    | none => rw [hy] at h; cases h
    | some l =>
      rw [hy] at h
      simp only [Option.bind_some] at h
      split at h
      · cases h
        refine ⟨(tyS_srt hy List.Pairwise.nil (by simp)).1.keep, ?_⟩
        unfold keepW; rw [List.filter_filter]; simp
      · cases h
  · cases h
theorem tidyR_self {ds t : List W9} (h : tidyR ds = some t) : tidyR t = some t := by
  obtain ⟨h1, h2, h3⟩ := tidyR_srt h
  rw [tidyR, if_pos h1, tdR, tyS_app t [] h2 (fun x hx => (dvOk_mem h1).2 x hx |>.2), List.nil_append]
  show (if dvOk (keepW t) = true then _ else _) = _
  rw [h3, if_pos h1]
theorem dt_dash {t : List W9} (h : dt t ≠ [45]) : t ≠ [] := fun e => h (by rw [e]; rfl)
theorem parse_dt {f : Tx → Option W9} (hf : ∀ x : W9, (-1000 ≤ x.s ∧ x.s ≤ 1000) → okC x.r = true → f (wt x) = some x) {t : List W9} (hv : dvOk t = true) (h : t ≠ []) : prs f (cutC 32 (dt t)) = some t := by
  rw [cut_dt h]
  exact prs_map t fun x hx => hf x ((dvOk_mem hv).2 x hx).1 ((dvOk_mem hv).2 x hx).2
theorem dt_nil : dt [] = [45] := rfl
theorem dt_ne45 {t : List W9} (h : t ≠ []) : dt t ≠ [45] := by
  intro e
  rw [dt, if_neg h] at e
  cases t with
  | nil => exact h rfl
  | cons x r =>
    rw [List.map_cons, Lib.join_cons, wt] at e
    have h58 : (58 : UInt8) ∈ [(45 : UInt8)] := by rw [← e]; simp
    exact absurd h58 (by decide)
theorem readS_dt {ds t : List W9} (h : tidyR ds = some t) (hl : (dt t).length ≤ 1500) : readS (dt t) = some t := by
  rw [readS, if_neg (by omega)]
  by_cases h0 : t = []
  · subst h0; rw [if_pos dt_nil]
  · rw [if_neg (dt_ne45 h0), parseS, parse_dt (fun x h1 h2 => wordS_wt h1 h2) (tidyR_srt h).1 h0]
    show (if textR t = some (dt t) then _ else _) = _
    rw [textR, tidyR_self h]; exact if_pos rfl
theorem readI_dt {ds t : List W9} (h : tidyR ds = some t) (hl : (dt t).length ≤ 1500) : readI (dt t) = some t := by
  rw [readI, if_neg (by omega)]
  have e : (if dt t = [45] then some [] else parseI (dt t)) = some t := by
    by_cases h0 : t = []
    · subst h0; rw [if_pos dt_nil]
    · rw [if_neg (dt_ne45 h0), parseI, parse_dt (fun x h1 h2 => wordI_wt h1 h2) (tidyR_srt h).1 h0]
  rw [e]
  show ((tidyR t).bind fun t' => if dt t' = dt t then some t' else none) = _
  rw [tidyR_self h]
  show (if dt t = dt t then _ else _) = _
  rw [if_pos rfl]
theorem readI_tidy {l : Tx} {t : List W9} (h : readI l = some t) : tidyR t = some t ∧ dt t = l ∧ l.length ≤ 1500 := by
  unfold readI at h
  split at h
  · cases h
  · next hl =>
    cases hd : (if l = [45] then some [] else parseI l) with
    | none => rw [hd] at h; cases h
    | some d =>
      rw [hd] at h
      simp only [Option.bind_some] at h
      cases ht : tidyR d with
      | none => rw [ht] at h; cases h
      | some t' =>
        rw [ht] at h
        simp only [Option.bind_some] at h
        split at h
        · next e => cases h; exact ⟨tidyR_self ht, e, by omega⟩
        · cases h
theorem readS_tidy {l : Tx} {t : List W9} (h : readS l = some t) : tidyR t = some t ∧ dt t = l ∧ l.length ≤ 1500 := by
  unfold readS at h
  split at h
  · cases h
  · next hl =>
    split at h
    · next e => cases h; exact ⟨rfl, e.symm, by omega⟩
    · next hne =>
      cases hd : parseS l with
      | none => rw [hd] at h; cases h
      | some d =>
        rw [hd] at h
        simp only [Option.bind_some] at h
        split at h
        · next e =>
          cases h
          unfold textR at e
          cases ht : tidyR t with
          | none => rw [ht] at e; cases e
          | some t' =>
            rw [ht] at e
            have e' : dt t' = l := Option.some.inj e
            have h0 : t' ≠ [] := dt_dash (by rw [e']; exact hne)
            have hp := parse_dt (fun x h1 h2 => wordS_wt h1 h2) (tidyR_srt ht).1 h0
            rw [e'] at hp
            obtain rfl : t = t' := Option.some.inj (hd.symm.trans hp)
            exact ⟨rfl, e', by omega⟩
        · cases h
theorem read_same (l : Tx) : readI l = readS l := by
  apply Option.ext
  intro t
  constructor
  · intro h
    obtain ⟨h1, rfl, h3⟩ := readI_tidy h
    exact readS_dt h1 h3
  · intro h
    obtain ⟨h1, rfl, h3⟩ := readS_tidy h
    exact readI_dt h1 h3
end Go.Proofs.YthojdoiffkdikaaGreatDoor
