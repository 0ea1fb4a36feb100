/- Words are told one by one; what stands behind a word plays no part, but for the next byte. No program in sight. -/
import Derived.Test.YteoleblodhgheaaDoorPLawA
namespace Go.Proofs.YteoleblodhgheaaDoor
namespace Tk
abbrev Word := Nat × List UInt8 × Int × Nat
/-- Words read one behind the other, from a text to what is left; of each its kind, text and number, and how much was left where it begins. -/
inductive Reads : List UInt8 → List Word → List UInt8 → Prop
  | nil (l : List UInt8) : Reads l [] l
  | cons {l : List UInt8} {c : UInt8} {cs : List UInt8} {k : Nat} {t : List UInt8} {i : Int} {r : List UInt8} {ws : List Word} {r2 : List UInt8} :
      skip false l = c :: cs → next (c :: cs) = .ok (k, t, i, r) → Reads r ws r2 → Reads l ((k, t, i, (c :: cs).length) :: ws) r2
def tok1 (n : Nat) (x : Word) : Tok := ⟨x.1, x.2.1, x.2.2.1, n - x.2.2.2⟩
def toks (n : Nat) (ws : List Word) : List Tok := ws.map (tok1 n)
theorem toks_length (n : Nat) (ws : List Word) : (toks n ws).length = ws.length := by simp [toks]
theorem Reads.acc {l r : List UInt8} {ws : List Word} (h : Reads l ws r) : ∀ n f acc, lexAcc n (f + ws.length) acc (skip false l) = lexAcc n f (acc ++ toks n ws) (skip false r) := by
  induction h with
  | nil l => intro n f acc; simp [toks]
  | cons h1 h2 h3 ih =>
    intro n f acc
    rw [h1, List.length_cons, ← Nat.add_assoc, lexAcc_cons, h2]
    show lexAcc n _ _ (skip false _) = _
    rw [ih]
    simp [toks, tok1]
theorem Reads.len {l r : List UInt8} {ws : List Word} (h : Reads l ws r) : ws.length + r.length ≤ l.length := by
  induction h with
  | nil l => simp
  | cons h1 h2 h3 ih =>
    have a := next_length _ _ _ _ _ h2
    have b := skip_length false ‹List UInt8›
    rename_i l c cs k t i r ws r2
    have b := skip_length false l
    rw [h1] at b
    simp only [List.length_cons] at *
    omega
theorem Reads.suffix {l r : List UInt8} {ws : List Word} (h : Reads l ws r) : r <:+ l := by
  induction h with
  | nil l => exact List.suffix_refl _
  | cons h1 h2 h3 ih =>
    rename_i l c cs k t i r ws r2
    have b := skip_suffix false l
    rw [h1] at b
    exact ih.trans ((next_suffix _ _ _ _ _ h2).trans b)
theorem lex_ok {l r : List UInt8} {ws : List Word} (h : Reads l ws r) (he : skip false r = []) (hl : l.length ≤ 4096) : lex l = (toks l.length ws ++ [⟨0, [], 0, l.length⟩], 0, 0) := by
  unfold lex
  rw [if_neg (by omega)]
  have hn := h.len
  obtain ⟨f, hf⟩ : ∃ f, l.length + 1 = (f + 1) + ws.length := ⟨l.length - ws.length, by omega⟩
  rw [hf, h.acc, he, lexAcc_nil]
  rfl
theorem lex_bad {l r : List UInt8} {ws : List Word} {c : UInt8} {cs : List UInt8} {e : Nat} (h : Reads l ws r) (he : skip false r = c :: cs) (hx : next (c :: cs) = .error e) (hl : l.length ≤ 4096) : lex l = ([], l.length - (c :: cs).length, e) := by
  unfold lex
  rw [if_neg (by omega)]
  have hn := h.len
  obtain ⟨f, hf⟩ : ∃ f, l.length + 1 = (f + 1) + ws.length := ⟨l.length - ws.length, by omega⟩
  rw [hf, h.acc, he, lexAcc_cons, hx]
theorem reads_all (l : List UInt8) : ∃ ws r, Reads l ws r ∧ (skip false r = [] ∨ ∃ c cs e, skip false r = c :: cs ∧ next (c :: cs) = .error e) := by
  suffices h : ∀ n l, l.length ≤ n → ∃ ws r, Reads l ws r ∧ (skip false r = [] ∨ ∃ c cs e, skip false r = c :: cs ∧ next (c :: cs) = .error e) from h _ l (Nat.le_refl _)
  intro n
  induction n with
  | zero =>
    intro l hl
    obtain rfl : l = [] := List.eq_nil_of_length_eq_zero (by omega)
    exact ⟨[], [], .nil _, Or.inl rfl⟩
  | succ n ih =>
    intro l hl
    cases hs : skip false l with
    | nil => exact ⟨[], l, .nil _, Or.inl hs⟩
    | cons c cs =>
      cases hn : next (c :: cs) with
      | error e => exact ⟨[], l, .nil _, Or.inr ⟨c, cs, e, hs, hn⟩⟩
      | ok x =>
        obtain ⟨k, t, i, r⟩ := x
        have a := next_length _ _ _ _ _ hn
        have b := skip_length false l
        rw [hs] at b
        obtain ⟨ws, r2, h1, h2⟩ := ih r (by omega)
        exact ⟨_, r2, .cons hs hn h1, h2⟩
/-- How Lex answers. -/
theorem lex_cases (l : List UInt8) (hl : l.length ≤ 4096) : ∃ ws r, Reads l ws r ∧ ((skip false r = [] ∧ lex l = (toks l.length ws ++ [⟨0, [], 0, l.length⟩], 0, 0)) ∨
    ∃ c cs e, skip false r = c :: cs ∧ next (c :: cs) = .error e ∧ (e = 2 ∨ e = 30) ∧ lex l = ([], l.length - (c :: cs).length, e)) := by
  obtain ⟨ws, r, h, h2⟩ := reads_all l
  refine ⟨ws, r, h, ?_⟩
  rcases h2 with h2 | ⟨c, cs, e, h2, h3⟩
  · exact Or.inl ⟨h2, lex_ok h h2 hl⟩
  · exact Or.inr ⟨c, cs, e, h2, h3, next_err _ _ h3, lex_bad h h2 h3 hl⟩
/-! ### blanks -/
/-- What may stand behind a word: nothing, or a blank. -/
def Sep (m : List UInt8) : Prop := ∀ c, m.head? = some c → blank c = true
theorem sep_ne {m : List UInt8} (h : Sep m) (b : UInt8) (hb : blank b = false) : m.head? ≠ some b := by
  intro e
  have := h b e
  rw [hb] at this
  cases this
theorem skip_append {m : List UInt8} (hm : Sep m) : ∀ (p : List UInt8) (b : Bool) (c : UInt8) (cs : List UInt8), skip b p = c :: cs → skip b (p ++ m) = c :: cs ++ m := by
  intro p
  induction p with
  | nil => intro b c cs h; cases b <;> simp [skip] at h
  | cons x xs ih =>
    intro b c cs h
    cases b with
    | true =>
      rw [skip] at h
      rw [List.cons_append, skip]
      exact ih _ _ _ h
    | false =>
      rw [skip] at h
      rw [List.cons_append, skip]
      by_cases hb : blank x = true
      · rw [if_pos hb] at h ⊢
        exact ih _ _ _ h
      · rw [if_neg hb] at h ⊢
        by_cases hc : x = 45 ∧ xs.head? = some 45
        · rw [if_pos hc] at h
          rw [if_pos ⟨hc.1, by cases xs with | nil => simp at hc | cons y ys => simpa using hc.2⟩]
          exact ih _ _ _ h
        · rw [if_neg hc] at h
          rw [if_neg, ← List.cons_append, h]
          rintro ⟨h1, h2⟩
          cases xs with
          | nil => exact sep_ne hm 45 (by decide) (by simpa using h2)
          | cons y ys => exact hc ⟨h1, by simpa using h2⟩
theorem skip_newline (m : List UInt8) : ∀ (p : List UInt8) (b : Bool), skip b p = [] → skip b (p ++ 10 :: m) = skip false m := by
  intro p
  induction p with
  | nil =>
    intro b _
    cases b
    · rw [List.nil_append, skip, if_pos (by decide)]
    · rw [List.nil_append, skip]; rfl
  | cons x xs ih =>
    intro b h
    cases b with
    | true =>
      rw [skip] at h
      rw [List.cons_append, skip]
      exact ih _ h
    | false =>
      rw [skip] at h
      rw [List.cons_append, skip]
      by_cases hb : blank x = true
      · rw [if_pos hb] at h ⊢
        exact ih _ h
      · rw [if_neg hb] at h ⊢
        by_cases hc : x = 45 ∧ xs.head? = some 45
        · rw [if_pos hc] at h
          rw [if_pos ⟨hc.1, by cases xs with | nil => simp at hc | cons y ys => simpa using hc.2⟩]
          exact ih _ h
        · rw [if_neg hc] at h
          cases h
/-- Where blanks and comments end at a text that is not empty, they end before whatever stands there. -/
theorem skip_mid (q : List UInt8) (hq : q ≠ []) : ∀ (p : List UInt8) (b : Bool), skip b (p ++ q) = q → ∀ m, skip b (p ++ m) = skip false m := by
  intro p
  induction p with
  | nil =>
    intro b h m
    cases b with
    | false => rfl
    | true =>
      cases q with
      | nil => exact absurd rfl hq
      | cons c cs =>
        exfalso
        rw [List.nil_append, skip] at h
        have := skip_length (notnl c) cs
        rw [h] at this
        simp at this
        omega
  | cons x xs ih =>
    intro b h m
    cases b with
    | true =>
      rw [List.cons_append, skip] at h ⊢
      exact ih _ h m
    | false =>
      rw [List.cons_append, skip] at h ⊢
      by_cases hb : blank x = true
      · rw [if_pos hb] at h ⊢
        exact ih _ h m
      · rw [if_neg hb] at h ⊢
        by_cases hc : x = 45 ∧ (xs ++ q).head? = some 45
        · rw [if_pos hc] at h
          cases xs with
          | nil =>
            exfalso
            cases q with
            | nil => exact hq rfl
            | cons c cs =>
              rw [List.nil_append, skip] at h
              have := skip_length (notnl c) cs
              rw [h] at this
              simp at this
              omega
          | cons y ys =>
            rw [if_pos ⟨hc.1, by simpa using hc.2⟩]
            exact ih _ h m
        · rw [if_neg hc] at h
          have := congrArg List.length h
          simp at this
          omega
theorem skip_prefix (q : List UInt8) : ∀ (p : List UInt8) (b : Bool) (x : UInt8) (xs : List UInt8), skip b (p ++ q) = x :: xs ++ q → skip b p = x :: xs := by
  intro p
  induction p with
  | nil =>
    intro b x xs h
    exfalso
    have := skip_length b q
    rw [List.nil_append] at h
    rw [h] at this
    simp at this
    omega
  | cons y ys ih =>
    intro b x xs h
    cases b with
    | true =>
      rw [List.cons_append, skip] at h
      rw [skip]
      exact ih _ _ _ h
    | false =>
      rw [List.cons_append, skip] at h
      rw [skip]
      by_cases hb : blank y = true
      · rw [if_pos hb] at h ⊢
        exact ih _ _ _ h
      · rw [if_neg hb] at h ⊢
        by_cases hc : y = 45 ∧ (ys ++ q).head? = some 45
        · rw [if_pos hc] at h
          cases ys with
          | nil =>
            exfalso
            have := skip_length true q
            rw [List.nil_append] at h
            rw [h] at this
            simp at this
            omega
          | cons z zs =>
            rw [if_pos ⟨hc.1, by simpa using hc.2⟩]
            exact ih _ _ _ h
        · rw [if_neg hc] at h
          rw [if_neg]
          · exact List.append_cancel_right (bs := q) (show (y :: ys) ++ q = (x :: xs) ++ q from h)
          · rintro ⟨h1, h2⟩
            apply hc
            refine ⟨h1, ?_⟩
            cases ys with
            | nil => simp at h2
            | cons z zs => simpa using h2
theorem skip_idem (l : List UInt8) : ∀ (b : Bool), skip false (skip b l) = skip b l := by
  induction l with
  | nil => intro b; cases b <;> rfl
  | cons x xs ih =>
    intro b
    cases b with
    | true => rw [skip]; exact ih _
    | false =>
      rw [skip]
      by_cases hb : blank x = true
      · rw [if_pos hb]; exact ih _
      · rw [if_neg hb]
        by_cases hc : x = 45 ∧ xs.head? = some 45
        · rw [if_pos hc]; exact ih _
        · rw [if_neg hc, skip, if_neg hb, if_neg hc]
end Tk
end Go.Proofs.YteoleblodhgheaaDoor
