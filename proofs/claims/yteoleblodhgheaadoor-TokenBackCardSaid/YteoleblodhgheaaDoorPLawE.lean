/- Words, written anew, are told again. No program in sight. -/
import Derived.Test.YteoleblodhgheaaDoorPLawD
namespace Go.Proofs.YteoleblodhgheaaDoor
namespace Tk
def upper1 (c : UInt8) : UInt8 := if 97 ≤ c.toNat ∧ c.toNat ≤ 122 then c - 32 else c
/-- A number's digits. -/
def digitsL (n : Nat) : List UInt8 := if h : n < 10 then [UInt8.ofNat (48 + n)] else digitsL (n / 10) ++ [UInt8.ofNat (48 + n % 10)]
termination_by n
decreasing_by omega
def quoteL (t : List UInt8) : List UInt8 := t.flatMap fun c => if c = 39 then [39, 39] else [c]
def writtenL (k : Nat) (t : List UInt8) (i : Int) (caps : Bool) : List UInt8 :=
  if k = 1 then (if caps then t.map upper1 else t) else if k = 2 then digitsL i.toNat else if k = 3 then 39 :: (quoteL t ++ [39]) else if k = 4 then t else []
/-- What a word may be. -/
def TokOk (k : Nat) (t : List UInt8) (i : Int) : Prop :=
  (k = 1 ∧ i = 0 ∧ t.length ≤ 32 ∧ (t.head?.map letter) = some true ∧ ∀ x ∈ t, alnum x = true ∧ lower1 x = x) ∨ (k = 2 ∧ t = [] ∧ 0 ≤ i ∧ i ≤ 9223372036854775807) ∨ (k = 3 ∧ i = 0) ∨ (k = 4 ∧ i = 0 ∧ t ∈ signs)
theorem lower1_lower (c : UInt8) : lower1 (lower1 c) = lower1 c := by
  unfold lower1
  split
  · rename_i h
    rw [if_neg]
    rw [UInt8.toNat_add]
    have : (32 : UInt8).toNat = 32 := rfl
    omega
  · rename_i h
    first | rfl | rw [if_neg h]
theorem alnum_lower (c : UInt8) (h : alnum c = true) : alnum (lower1 c) = true := by
  unfold lower1
  split
  · rename_i h2
    have e : (c + 32).toNat = c.toNat + 32 := by
      rw [UInt8.toNat_add]
      have : (32 : UInt8).toNat = 32 := rfl
      omega
    simp only [alnum, letter, digit, Bool.or_eq_true, decide_eq_true_eq, e]
    omega
  · exact h
theorem letter_lower (c : UInt8) (h : letter c = true) : letter (lower1 c) = true := by
  unfold lower1
  split
  · rename_i h2
    have e : (c + 32).toNat = c.toNat + 32 := by
      rw [UInt8.toNat_add]
      have : (32 : UInt8).toNat = 32 := rfl
      omega
    simp only [letter, decide_eq_true_eq, e]
    omega
  · exact h
theorem next_ok {l : List UInt8} {k : Nat} {t : List UInt8} {i : Int} {r : List UInt8} (h : next l = .ok (k, t, i, r)) : TokOk k t i := by
  match l, h with
  | [], h => simp [next] at h
  | c :: cs, h =>
    unfold next at h
    simp only at h
    split at h
    · rename_i hc
      split at h
      · cases h
      · rename_i h32
        simp only [Except.ok.injEq, Prod.mk.injEq] at h
        obtain ⟨rfl, rfl, rfl, _⟩ := h
        refine Or.inl ⟨rfl, rfl, by rw [List.length_map]; omega, ?_, ?_⟩
        · rw [List.takeWhile_cons, if_pos (letter_alnum hc)]
          simp [letter_lower c hc]
        · intro x hx
          rw [List.mem_map] at hx
          obtain ⟨y, hy, rfl⟩ := hx
          exact ⟨alnum_lower y (takeWhile_all alnum _ y hy), lower1_lower y⟩
    · split at h
      · split at h
        · cases h
        · rename_i hb
          simp only [Except.ok.injEq, Prod.mk.injEq] at h
          obtain ⟨rfl, rfl, rfl, _⟩ := h
          exact Or.inr (Or.inl ⟨rfl, rfl, by omega, by omega⟩)
      · split at h
        · split at h
          · cases h
          · simp only [Except.ok.injEq, Prod.mk.injEq] at h
            obtain ⟨rfl, rfl, rfl, _⟩ := h
            exact Or.inr (Or.inr (Or.inl ⟨rfl, rfl⟩))
        · cases hx : signOf (c :: cs) 0 with
          | none => rw [hx] at h; cases h
          | some g =>
            rw [hx] at h
            simp only [Except.ok.injEq, Prod.mk.injEq] at h
            obtain ⟨rfl, rfl, rfl, _⟩ := h
            exact Or.inr (Or.inr (Or.inr ⟨rfl, rfl, signOf_mem hx⟩))
theorem Reads.ok {l r : List UInt8} {ws : List Word} (h : Reads l ws r) : ∀ x ∈ ws, TokOk x.1 x.2.1 x.2.2.1 := by
  induction h with
  | nil l => intro x hx; cases hx
  | cons a b c ih =>
    intro x hx
    rcases List.mem_cons.1 hx with rfl | hx
    · exact next_ok b
    · exact ih x hx
/-! ### numbers -/
theorem digitsL_small {n : Nat} (h : n < 10) : digitsL n = [UInt8.ofNat (48 + n)] := by
  conv => lhs; unfold digitsL
  rw [dif_pos h]
theorem digitsL_more {n : Nat} (h : ¬ n < 10) : digitsL n = digitsL (n / 10) ++ [UInt8.ofNat (48 + n % 10)] := by
  conv => lhs; unfold digitsL
  rw [dif_neg h]
theorem toNat_digit {d : Nat} (h : d < 10) : (UInt8.ofNat (48 + d)).toNat = 48 + d := by
  rw [UInt8.toNat_ofNat']
  omega
theorem digit_of {d : Nat} (h : d < 10) : digit (UInt8.ofNat (48 + d)) = true := by
  simp only [digit, decide_eq_true_eq, toNat_digit h]
  omega
theorem value_snoc (ds : List UInt8) (c : UInt8) : value (ds ++ [c]) = value ds * 10 + (c.toNat - 48) := by simp [value]
theorem digitsL_facts (n : Nat) : (∀ x ∈ digitsL n, digit x = true) ∧ value (digitsL n) = n ∧ ∃ c cs, digitsL n = c :: cs ∧ (c = 48 → n = 0) := by
  induction n using Nat.strongRecOn with
  | ind n ih =>
    by_cases h : n < 10
    · rw [digitsL_small h]
      refine ⟨?_, ?_, _, _, rfl, ?_⟩
      · intro x hx
        rw [List.mem_singleton] at hx
        subst hx
        exact digit_of h
      · show 0 * 10 + ((UInt8.ofNat (48 + n)).toNat - 48) = n
        rw [toNat_digit h]
        omega
      · intro e
        have := congrArg UInt8.toNat e
        rw [toNat_digit h] at this
        have : (48 : UInt8).toNat = 48 := rfl
        omega
    · obtain ⟨h1, h2, c, cs, h3, h4⟩ := ih (n / 10) (by omega)
      rw [digitsL_more h]
      refine ⟨?_, ?_, c, cs ++ [UInt8.ofNat (48 + n % 10)], by rw [h3]; rfl, ?_⟩
      · intro x hx
        rw [List.mem_append, List.mem_singleton] at hx
        rcases hx with hx | rfl
        · exact h1 x hx
        · exact digit_of (by omega)
      · rw [value_snoc, h2, toNat_digit (by omega)]
        omega
      · intro e
        have := h4 e
        omega
/-! ### texts -/
theorem textGo_quoteL {m : List UInt8} (hm : m.head? ≠ some 39) : ∀ t : List UInt8, textGo (quoteL t ++ 39 :: m) = some (t, m) := by
  intro t
  induction t with
  | nil =>
    show textGo (39 :: m) = _
    cases m with
    | nil => exact textGo_end
    | cons y ys => exact textGo_stop y ys (by rintro rfl; exact hm rfl)
  | cons c cs ih =>
    have e : quoteL (c :: cs) = (if c = 39 then [39, 39] else [c]) ++ quoteL cs := rfl
    rw [e]
    by_cases hc : c = 39
    · subst hc
      rw [if_pos rfl]
      show textGo (39 :: 39 :: (quoteL cs ++ 39 :: m)) = _
      rw [textGo_quote, ih]
      rfl
    · rw [if_neg hc]
      show textGo (c :: (quoteL cs ++ 39 :: m)) = _
      rw [textGo_byte c _ hc, ih]
      rfl
/-! ### words -/
theorem upper_lower {x : UInt8} (h : lower1 x = x) : lower1 (upper1 x) = x := by
  unfold upper1
  split
  · rename_i h2
    have e : (x - 32).toNat = x.toNat - 32 := by
      have h3 : (32 : UInt8) ≤ x := by
        rw [UInt8.le_iff_toNat_le]
        have : (32 : UInt8).toNat = 32 := rfl
        omega
      rw [UInt8.toNat_sub_of_le _ _ h3]
      rfl
    unfold lower1
    rw [if_pos (by omega)]
    exact UInt8.sub_add_cancel x 32
  · exact h
theorem upper_alnum {x : UInt8} (h : alnum x = true) : alnum (upper1 x) = true := by
  unfold upper1
  split
  · rename_i h2
    have e : (x - 32).toNat = x.toNat - 32 := by
      have h3 : (32 : UInt8) ≤ x := by
        rw [UInt8.le_iff_toNat_le]
        have : (32 : UInt8).toNat = 32 := rfl
        omega
      rw [UInt8.toNat_sub_of_le _ _ h3]
      rfl
    simp only [alnum, letter, digit, Bool.or_eq_true, decide_eq_true_eq, e]
    omega
  · exact h
theorem upper_letter {x : UInt8} (h : letter x = true) : letter (upper1 x) = true := by
  unfold upper1
  split
  · rename_i h2
    have e : (x - 32).toNat = x.toNat - 32 := by
      have h3 : (32 : UInt8) ≤ x := by
        rw [UInt8.le_iff_toNat_le]
        have : (32 : UInt8).toNat = 32 := rfl
        omega
      rw [UInt8.toNat_sub_of_le _ _ h3]
      rfl
    simp only [letter, decide_eq_true_eq, e]
    omega
  · exact h
theorem tw_all {p : UInt8 → Bool} {m : List UInt8} (hm : ∀ c, m.head? = some c → p c = false) {l : List UInt8} (h : ∀ x ∈ l, p x = true) : (l ++ m).takeWhile p = l ∧ (l ++ m).dropWhile p = m := by
  obtain ⟨h1, h2⟩ := tw_append hm l
  rw [h1, h2, takeWhile_eq h, dropWhile_eq h]
  exact ⟨rfl, rfl⟩
theorem word_back {m : List UInt8} (hm : Sep m) (c : UInt8) (cs t : List UInt8) (hc : letter c = true) (hl : (c :: cs).length ≤ 32) (ha : ∀ x ∈ c :: cs, alnum x = true) (ht : (c :: cs).map lower1 = t) :
    skip false (c :: cs ++ m) = c :: cs ++ m ∧ next (c :: cs ++ m) = .ok (1, t, 0, m) := by
  obtain ⟨h1, h2⟩ := tw_all (sep_alnum hm) ha
  rw [List.cons_append] at h1 h2 ⊢
  refine ⟨skip_letter _ hc, ?_⟩
  unfold next
  simp only
  rw [if_pos hc, h1, h2, if_neg (by omega), ht]
def signB : List UInt8 → Bool
  | [] => false
  | c :: cs => !letter c && !digit c && decide (c ≠ 39) && !blank c && decide (¬ (c = 45 ∧ cs.head? = some 45)) && decide (c = 45 → cs = [])
theorem signs_facts : ∀ g ∈ signs, signOf g 0 = some g ∧ ∃ c cs, g = c :: cs ∧ letter c = false ∧ digit c = false ∧ c ≠ 39 ∧ blank c = false ∧ ¬ (c = 45 ∧ cs.head? = some 45) ∧ (c = 45 → cs = []) := by
  have h : ∀ g ∈ signs, signOf g 0 = some g ∧ signB g = true := by decide
  intro g hg
  obtain ⟨h1, h2⟩ := h g hg
  match g, h1, h2 with
  | c :: cs, h1, h2 =>
    simp only [signB, Bool.and_eq_true, Bool.not_eq_true', decide_eq_true_eq] at h2
    obtain ⟨⟨⟨⟨⟨a, b⟩, c1⟩, d⟩, e⟩, f⟩ := h2
    exact ⟨h1, c, cs, rfl, a, b, c1, d, e, f⟩
/-- A word, written, is told again, whatever stands behind it, if that begins with a blank. -/
theorem back_one {m : List UInt8} (hm : Sep m) {k : Nat} {t : List UInt8} {i : Int} (caps : Bool) (h : TokOk k t i) :
    ∃ c cs, writtenL k t i caps ++ m = c :: cs ∧ skip false (c :: cs) = c :: cs ∧ next (c :: cs) = .ok (k, t, i, m) := by
  rcases h with ⟨rfl, rfl, hl, hh, ha⟩ | ⟨rfl, rfl, h0, h1⟩ | ⟨rfl, rfl⟩ | ⟨rfl, rfl, hg⟩
  · match t, hl, hh, ha with
    | c :: cs, hl, hh, ha =>
      have hc : letter c = true := by simpa using hh
      have hmap : ∀ l : List UInt8, (∀ x ∈ l, alnum x = true ∧ lower1 x = x) → l.map lower1 = l ∧ (l.map upper1).map lower1 = l := by
        intro l
        induction l with
        | nil => intro _; exact ⟨rfl, rfl⟩
        | cons y ys ih =>
          intro hy
          obtain ⟨h1, h2⟩ := ih fun z hz => hy z (by simp [hz])
          have h3 := (hy y (by simp)).2
          refine ⟨by rw [List.map_cons, h1, h3], ?_⟩
          rw [List.map_cons, List.map_cons, h2, upper_lower h3]
      obtain ⟨m1, m2⟩ := hmap _ ha
      cases caps with
      | false =>
        obtain ⟨a, b⟩ := word_back hm c cs (c :: cs) hc hl (fun x hx => (ha x hx).1) m1
        exact ⟨c, cs ++ m, rfl, a, b⟩
      | true =>
        obtain ⟨a, b⟩ := word_back hm (upper1 c) (cs.map upper1) (c :: cs) (upper_letter hc) (by simpa using hl) (by
          intro x hx
          rw [← List.map_cons, List.mem_map] at hx
          obtain ⟨y, hy, rfl⟩ := hx
          exact upper_alnum (ha y hy).1) m2
        exact ⟨upper1 c, cs.map upper1 ++ m, rfl, a, b⟩
  · obtain ⟨d1, d2, c, cs, d3, d4⟩ := digitsL_facts i.toNat
    have e : writtenL 2 [] i caps = digitsL i.toNat := rfl
    rw [e]
    have hd : digit c = true := d1 c (by rw [d3]; simp)
    obtain ⟨t1, t2⟩ := tw_all (sep_digit hm) d1
    have hlet : letter c = false := by
      simp only [letter, digit, decide_eq_true_eq, decide_eq_false_iff_not] at hd ⊢
      omega
    have hbl : blank c = false := by
      simp only [blank, digit, decide_eq_true_eq, decide_eq_false_iff_not] at hd ⊢
      omega
    have h45 : c ≠ 45 := by rintro rfl; revert hd; decide
    rw [d3] at t1 t2 ⊢
    rw [List.cons_append] at t1 t2 ⊢
    refine ⟨c, cs ++ m, rfl, ?_, ?_⟩
    · rw [skip, if_neg (by simp [hbl]), if_neg (by intro h; exact h45 h.1)]
    · unfold next
      simp only
      rw [if_neg (by simp [hlet]), if_pos hd, t1, t2, if_neg]
      · rw [← d3, d2]
        have : ((i.toNat : Nat) : Int) = i := by omega
        rw [this]
      · rintro (h | h | h)
        · rw [← d3, d2] at h
          omega
        · have h6 := d4 h.1
          rw [h6] at d3
          rw [digitsL_small (by omega)] at d3
          exact h.2 d3.symm
        · rw [← List.nil_append m, head_app_letter hm] at h
          simp at h
  · have e : writtenL 3 t 0 caps ++ m = 39 :: (quoteL t ++ 39 :: m) := by
      show 39 :: (quoteL t ++ [39]) ++ m = _
      simp
    refine ⟨39, quoteL t ++ 39 :: m, e, ?_, ?_⟩
    · rw [skip, if_neg (by decide), if_neg (by intro h; exact absurd h.1 (by decide))]
    · unfold next
      simp only
      rw [if_neg (by decide), if_neg (by decide)]
      simp only [if_true]
      rw [textGo_quoteL (sep_ne hm 39 (by decide))]
  · obtain ⟨h1, c, cs, rfl, l1, l2, l3, l4, l5, l6⟩ := signs_facts t hg
    refine ⟨c, cs ++ m, rfl, ?_, ?_⟩
    · rw [skip, if_neg (by simp [l4]), if_neg]
      rintro ⟨rfl, h⟩
      rw [l6 rfl] at h
      exact sep_ne hm 45 (by decide) h
    · have h2 := signOf_append hm c cs
      rw [h1, List.cons_append] at h2
      unfold next
      simp only
      rw [if_neg (by simp [l1]), if_neg (by simp [l2]), if_neg l3, h2]
      simp
/-! ### a row of words -/
def gapL (b : Nat) : List UInt8 := if b = 1 then [9, 10] else if b = 2 then [32, 45, 45, 32, 105, 116, 39, 115, 32, 40, 10] else if b = 3 then [13, 32] else [32]
theorem gap_skip (b : Nat) (x : List UInt8) : skip false (gapL b ++ x) = skip false x := by
  unfold gapL
  split
  · rfl
  · split
    · rfl
    · split
      · rfl
      · rfl
theorem gap_sep (b : Nat) (x : List UInt8) : Sep (gapL b ++ x) := by
  unfold gapL
  intro c hc
  split at hc
  · simp at hc; subst hc; decide
  · split at hc
    · simp at hc; subst hc; decide
    · split at hc
      · simp at hc; subst hc; decide
      · simp at hc; subst hc; decide
def build (g : Nat → Nat) (caps : Bool) : Nat → List Tok → List UInt8
  | _, [] => []
  | i, t :: ts => gapL (g i) ++ (writtenL t.kind t.text t.int caps ++ build g caps (i + 1) ts)
def bwords (g : Nat → Nat) (caps : Bool) : Nat → List Tok → List Word
  | _, [] => []
  | i, t :: ts => (t.kind, t.text, t.int, (writtenL t.kind t.text t.int caps ++ build g caps (i + 1) ts).length) :: bwords g caps (i + 1) ts
theorem build_sep (g : Nat → Nat) (caps : Bool) (i : Nat) (ts : List Tok) : Sep (build g caps i ts) := by
  cases ts with
  | nil => intro c hc; cases hc
  | cons t ts => exact gap_sep _ _
theorem build_reads (g : Nat → Nat) (caps : Bool) : ∀ (ts : List Tok) (i : Nat), (∀ t ∈ ts, TokOk t.kind t.text t.int) → Reads (build g caps i ts) (bwords g caps i ts) [] := by
  intro ts
  induction ts with
  | nil => intro i _; exact .nil _
  | cons t ts ih =>
    intro i h
    obtain ⟨c, cs, h1, h2, h3⟩ := back_one (build_sep g caps (i + 1) ts) caps (h t (by simp))
    have hr := ih (i + 1) fun x hx => h x (by simp [hx])
    show Reads (gapL (g i) ++ (writtenL t.kind t.text t.int caps ++ build g caps (i + 1) ts)) ((t.kind, t.text, t.int, (writtenL t.kind t.text t.int caps ++ build g caps (i + 1) ts).length) :: bwords g caps (i + 1) ts) []
    rw [h1]
    exact .cons ((gap_skip _ _).trans h2) h3 hr
theorem build_app (g : Nat → Nat) (caps : Bool) : ∀ (ts us : List Tok) (i : Nat), build g caps i (ts ++ us) = build g caps i ts ++ build g caps (i + ts.length) us := by
  intro ts
  induction ts with
  | nil => intro us i; rfl
  | cons t ts ih =>
    intro us i
    simp only [List.cons_append, build, ih, List.append_assoc, List.length_cons]
    rw [show i + 1 + ts.length = i + (ts.length + 1) by omega]
theorem bwords_get (g : Nat → Nat) (caps : Bool) : ∀ (ts : List Tok) (i j : Nat) (t : Tok), ts[j]? = some t →
    (bwords g caps i ts)[j]? = some (t.kind, t.text, t.int, (writtenL t.kind t.text t.int caps ++ build g caps (i + j + 1) (ts.drop (j + 1))).length) := by
  intro ts
  induction ts with
  | nil => intro i j t h; simp at h
  | cons u us ih =>
    intro i j t h
    cases j with
    | zero =>
      simp at h
      subst h
      rfl
    | succ j =>
      have h2 := ih (i + 1) j t (by simpa using h)
      rw [show i + 1 + j + 1 = i + (j + 1) + 1 by omega] at h2
      exact h2
/-- THE STAGE's THEOREM, plainly: each word, written anew, is told again where it stands. -/
theorem back_all (g : Nat → Nat) (caps : Bool) (ts : List Tok) (h : ∀ t ∈ ts, TokOk t.kind t.text t.int) (hl : (build g caps 0 ts).length ≤ 4096) :
    ∃ us : List Tok, lex (build g caps 0 ts) = (us ++ [⟨0, [], 0, (build g caps 0 ts).length⟩], 0, 0) ∧ us.length = ts.length ∧
      ∀ (j : Nat) (t : Tok), ts[j]? = some t → us[j]? = some (⟨t.kind, t.text, t.int, (build g caps 0 (ts.take j) ++ gapL (g j)).length⟩ : Tok) := by
  have hr := build_reads g caps ts 0 h
  have hb : ∀ (ts : List Tok) (i : Nat), (bwords g caps i ts).length = ts.length := by
    intro ts
    induction ts with
    | nil => intro i; rfl
    | cons t ts ih => intro i; simp only [bwords, List.length_cons, ih]
  refine ⟨toks _ (bwords g caps 0 ts), lex_ok hr rfl hl, by rw [toks_length, hb], fun j t ht => ?_⟩
  have h1 := bwords_get g caps ts 0 j t ht
  unfold toks
  rw [List.getElem?_map, h1]
  simp only [Option.map_some, tok1, Option.some.injEq, Tok.mk.injEq, true_and]
  obtain ⟨hj, rfl⟩ := List.getElem?_eq_some_iff.1 ht
  have h2 : build g caps 0 ts = build g caps 0 (ts.take j) ++ (gapL (g j) ++ (writtenL ts[j].kind ts[j].text ts[j].int caps ++ build g caps (0 + j + 1) (ts.drop (j + 1)))) := by
    conv => lhs; rw [← List.take_append_drop j ts]
    rw [build_app, List.length_take, Nat.min_eq_left (Nat.le_of_lt hj), List.drop_eq_getElem_cons hj]
    simp only [build, Nat.zero_add]
  rw [h2]
  simp only [List.length_append]
  omega
/-- Words stand one behind the other. -/
theorem Reads.falls {l r : List UInt8} {ws : List Word} (h : Reads l ws r) : ∀ i x y, ws[i]? = some x → ws[i + 1]? = some y → y.2.2.2 < x.2.2.2 := by
  induction h with
  | nil l => intro i x y hx; simp at hx
  | cons a b c ih =>
    rename_i l x0 xs k t i0 r1 ws r2
    intro i x y hx hy
    cases i with
    | zero =>
      simp at hx
      subst hx
      have h2 := next_length _ _ _ _ _ b
      have h3 := c.bound y (List.mem_of_getElem? (by simpa using hy))
      show y.2.2.2 < (x0 :: xs).length
      omega
    | succ i => exact ih i x y (by simpa using hx) (by simpa using hy)
end Tk
end Go.Proofs.YteoleblodhgheaaDoor
