/- A word within a longer text. No program in sight. -/
import Derived.Test.YteoleblodhgheaaDoorPLawB
namespace Go.Proofs.YteoleblodhgheaaDoor
namespace Tk
theorem tw_append {p : UInt8 → Bool} {m : List UInt8} (hm : ∀ c, m.head? = some c → p c = false) : ∀ l : List UInt8, (l ++ m).takeWhile p = l.takeWhile p ∧ (l ++ m).dropWhile p = l.dropWhile p ++ m := by
  intro l
  induction l with
  | nil =>
    cases m with
    | nil => exact ⟨rfl, rfl⟩
    | cons c cs => simp [List.takeWhile_cons, List.dropWhile_cons, hm c rfl]
  | cons x xs ih =>
    simp only [List.cons_append, List.takeWhile_cons, List.dropWhile_cons]
    by_cases h : p x = true
    · simp [h, ih.1, ih.2]
    · simp [h]
theorem tw_prefix {p : UInt8 → Bool} {q : List UInt8} : ∀ (l d : List UInt8), (l ++ q).dropWhile p = d ++ q → (l ++ q).takeWhile p = l.takeWhile p ∧ l.dropWhile p = d := by
  intro l
  induction l with
  | nil =>
    intro d h
    have hl := congrArg List.length h
    have h2 := (List.dropWhile_suffix p (l := q)).length_le
    rw [List.nil_append, List.length_append] at hl
    obtain rfl : d = [] := List.eq_nil_of_length_eq_zero (by omega)
    refine ⟨?_, rfl⟩
    have := List.takeWhile_append_dropWhile (p := p) (l := q)
    rw [List.nil_append] at h
    rw [h] at this
    have h3 := congrArg List.length this
    simp at h3
    rw [List.nil_append]
    rw [h3]; rfl
  | cons x xs ih =>
    intro d h
    simp only [List.cons_append, List.takeWhile_cons, List.dropWhile_cons] at h ⊢
    by_cases hx : p x = true
    · simp only [hx, if_true] at h ⊢
      have := ih d h
      exact ⟨by rw [this.1], this.2⟩
    · simp only [hx] at h ⊢
      exact ⟨rfl, List.append_cancel_right (bs := q) (show (x :: xs) ++ q = d ++ q from h)⟩
theorem textGo_append {m : List UInt8} (hm : m.head? ≠ some 39) : ∀ (n : Nat) (l : List UInt8), l.length ≤ n → ∀ t r, textGo l = some (t, r) → textGo (l ++ m) = some (t, r ++ m) := by
  intro n
  induction n with
  | zero =>
    intro l hl t r h
    obtain rfl : l = [] := List.eq_nil_of_length_eq_zero (by omega)
    simp [textGo] at h
  | succ n ih =>
    intro l hl t r h
    match l, hl, h with
    | [], _, h => simp [textGo] at h
    | c :: cs, hl, h =>
      by_cases hc : c = 39
      · subst hc
        match cs, hl, h with
        | [], _, h =>
          rw [textGo_end] at h
          obtain ⟨rfl, rfl⟩ := Prod.mk.inj (Option.some.inj h)
          cases m with
          | nil => rfl
          | cons y ys => exact textGo_stop y ys (by rintro rfl; exact hm rfl)
        | d :: ds, hl, h =>
          by_cases hd : d = 39
          · subst hd
            rw [textGo_quote] at h
            cases hx : textGo ds with
            | none => rw [hx] at h; simp at h
            | some x =>
              obtain ⟨t1, r1⟩ := x
              rw [hx] at h
              simp only [Option.map_some, Option.some.injEq, Prod.mk.injEq] at h
              obtain ⟨rfl, rfl⟩ := h
              rw [List.cons_append, List.cons_append, textGo_quote, ih ds (by simp at hl; omega) _ _ hx]
              rfl
          · rw [textGo_stop d ds hd] at h
            obtain ⟨rfl, rfl⟩ := Prod.mk.inj (Option.some.inj h)
            exact textGo_stop d _ hd
      · rw [textGo_byte c cs hc] at h
        cases hx : textGo cs with
        | none => rw [hx] at h; simp at h
        | some x =>
          obtain ⟨t1, r1⟩ := x
          rw [hx] at h
          simp only [Option.map_some, Option.some.injEq, Prod.mk.injEq] at h
          obtain ⟨rfl, rfl⟩ := h
          rw [List.cons_append, textGo_byte c _ hc, ih cs (by simp at hl; omega) _ _ hx]
          rfl
theorem textGo_prefix {q : List UInt8} : ∀ (n : Nat) (l : List UInt8), l.length ≤ n → ∀ t r, textGo (l ++ q) = some (t, r ++ q) → textGo l = some (t, r) := by
  intro n
  induction n with
  | zero =>
    intro l hl t r h
    obtain rfl : l = [] := List.eq_nil_of_length_eq_zero (by omega)
    exfalso
    rw [List.nil_append] at h
    have hlt : ∀ (k : Nat) (l : List UInt8), l.length ≤ k → ∀ x, textGo l = some x → x.2.length < l.length := by
      intro k l hk x hx
      cases l with
      | nil => simp [textGo] at hx
      | cons c cs =>
        by_cases hc : c = 39
        · subst hc
          cases cs with
          | nil => rw [textGo_end] at hx; cases hx; simp
          | cons d ds =>
            by_cases hd : d = 39
            · subst hd
              rw [textGo_quote] at hx
              cases hy : textGo ds with
              | none => rw [hy] at hx; simp at hx
              | some y =>
                rw [hy] at hx
                cases hx
                have := textGo_length _ ds (Nat.le_refl _) _ hy
                simp; omega
            · rw [textGo_stop d ds hd] at hx
              cases hx
              simp
        · rw [textGo_byte c cs hc] at hx
          cases hy : textGo cs with
          | none => rw [hy] at hx; simp at hx
          | some y =>
            rw [hy] at hx
            cases hx
            have := textGo_length _ cs (Nat.le_refl _) _ hy
            simp; omega
    have := hlt _ q (Nat.le_refl _) _ h
    simp at this
    omega
  | succ n ih =>
    intro l hl t r h
    match l, hl, h with
    | [], hl, h => exact ih [] (Nat.zero_le _) t r h
    | c :: cs, hl, h =>
      by_cases hc : c = 39
      · subst hc
        match cs, hl, h with
        | [], _, h =>
          cases q with
          | nil => simpa using h
          | cons y ys =>
            by_cases hy : y = 39
            · subst hy
              exfalso
              rw [List.cons_append, List.nil_append, textGo_quote] at h
              cases hx : textGo ys with
              | none => rw [hx] at h; simp at h
              | some x =>
                rw [hx] at h
                have := textGo_length _ ys (Nat.le_refl _) _ hx
                simp only [Option.map_some, Option.some.injEq, Prod.mk.injEq] at h
                have h2 := congrArg List.length h.2
                simp at h2
                omega
            · rw [List.cons_append, List.nil_append, textGo_stop y ys hy] at h
              obtain ⟨rfl, h2⟩ := Prod.mk.inj (Option.some.inj h)
              have : r = [] := List.append_cancel_right (bs := y :: ys) (as := r) (cs := []) (by simpa using h2.symm)
              rw [this, textGo_end]
        | d :: ds, hl, h =>
          by_cases hd : d = 39
          · subst hd
            rw [List.cons_append, List.cons_append, textGo_quote] at h
            cases hx : textGo (ds ++ q) with
            | none => rw [hx] at h; simp at h
            | some x =>
              obtain ⟨t1, r1⟩ := x
              rw [hx] at h
              simp only [Option.map_some, Option.some.injEq, Prod.mk.injEq] at h
              obtain ⟨rfl, rfl⟩ := h
              rw [textGo_quote, ih ds (by simp at hl; omega) _ _ hx]
              rfl
          · rw [List.cons_append, List.cons_append, textGo_stop d _ hd] at h
            obtain ⟨rfl, h2⟩ := Prod.mk.inj (Option.some.inj h)
            have : r = d :: ds := List.append_cancel_right (bs := q) (by simpa using h2.symm)
            rw [this]
            exact textGo_stop d _ hd
      · rw [List.cons_append, textGo_byte c _ hc] at h
        cases hx : textGo (cs ++ q) with
        | none => rw [hx] at h; simp at h
        | some x =>
          obtain ⟨t1, r1⟩ := x
          rw [hx] at h
          simp only [Option.map_some, Option.some.injEq, Prod.mk.injEq] at h
          obtain ⟨rfl, rfl⟩ := h
          rw [textGo_byte c cs hc, ih cs (by simp at hl; omega) _ _ hx]
          rfl
theorem find_congr {α : Type} {p q : α → Bool} : ∀ {l : List α}, (∀ x ∈ l, p x = q x) → l.find? p = l.find? q := by
  intro l
  induction l with
  | nil => intro _; rfl
  | cons x xs ih =>
    intro h
    rw [List.find?_cons, List.find?_cons, h x (by simp), ih fun y hy => h y (by simp [hy])]
theorem signs_two : ∀ s ∈ signs, s.length = 1 ∨ (s.length = 2 ∧ ∀ c, s[1]? = some c → blank c = false) := by decide
theorem pre_sep {m : List UInt8} (hm : Sep m) (s : List UInt8) (hs : s ∈ signs) (c : UInt8) (cs : List UInt8) : s.isPrefixOf (c :: cs ++ m) = s.isPrefixOf (c :: cs) := by
  have h2 := signs_two s hs
  match s, h2 with
  | [], h2 => rfl
  | [a], h2 => simp [List.isPrefixOf]
  | [a, b], h2 =>
    have hb : blank b = false := by
      rcases h2 with h | h
      · simp at h
      · exact h.2 b rfl
    cases cs with
    | nil =>
      cases m with
      | nil => rfl
      | cons y ys =>
        have hy := hm y rfl
        have : (b == y) = false := by
          rw [beq_eq_false_iff_ne]
          rintro rfl
          rw [hb] at hy
          cases hy
        simp [List.isPrefixOf, this]
    | cons d ds => simp [List.isPrefixOf]
  | a :: b :: d :: e, h2 =>
    rcases h2 with h | h <;> simp at h
theorem signOf_append {m : List UInt8} (hm : Sep m) (c : UInt8) (cs : List UInt8) : signOf (c :: cs ++ m) 0 = signOf (c :: cs) 0 := by
  unfold signOf
  exact find_congr fun s hs => pre_sep hm s (List.mem_of_mem_drop hs) c cs
theorem signOf_pre {l g : List UInt8} (h : signOf l 0 = some g) : g <+: l := by
  unfold signOf at h
  have := List.find?_some h
  exact List.isPrefixOf_iff_prefix.1 this
theorem signOf_mem {l g : List UInt8} (h : signOf l 0 = some g) : g ∈ signs := by
  unfold signOf at h
  exact List.mem_of_mem_drop (List.mem_of_find?_eq_some h)
theorem signOf_prefix {q l g r : List UInt8} (h : signOf (l ++ q) 0 = some g) (hr : (l ++ q).drop g.length = r ++ q) : signOf l 0 = some g ∧ l.drop g.length = r := by
  have hp := signOf_pre h
  have h1 := hp.length_le
  have h2 := congrArg List.length hr
  rw [List.length_drop, List.length_append, List.length_append] at h2
  rw [List.length_append] at h1
  have hle : g.length ≤ l.length := by omega
  refine ⟨?_, ?_⟩
  · unfold signOf at h ⊢
    rw [List.find?_eq_some_iff_append] at h ⊢
    obtain ⟨h3, as, bs, h4, h5⟩ := h
    refine ⟨?_, as, bs, h4, fun a ha => ?_⟩
    · rw [List.isPrefixOf_iff_prefix]
      exact List.prefix_of_prefix_length_le hp (List.prefix_append l q) hle
    · have := h5 a ha
      cases hx : a.isPrefixOf l with
      | false => rfl
      | true =>
        rw [List.isPrefixOf_iff_prefix] at hx
        have h6 : a.isPrefixOf (l ++ q) = true := by rw [List.isPrefixOf_iff_prefix]; exact hx.trans (List.prefix_append l q)
        rw [h6] at this
        cases this
  · rw [List.drop_append_of_le_length hle] at hr
    exact List.append_cancel_right hr
theorem head_app_letter {d m : List UInt8} (hm : Sep m) : ((d ++ m).head?.map letter = some true) ↔ (d.head?.map letter = some true) := by
  cases d with
  | cons x xs => simp
  | nil =>
    cases m with
    | nil => simp
    | cons y ys =>
      have hy := hm y rfl
      have : letter y = false := by
        simp only [letter, blank, decide_eq_true_eq, decide_eq_false_iff_not] at hy ⊢
        omega
      simp [this]
theorem sep_alnum {m : List UInt8} (hm : Sep m) : ∀ c, m.head? = some c → alnum c = false := by
  intro c hc
  have := hm c hc
  simp only [alnum, letter, digit, blank, decide_eq_true_eq, Bool.or_eq_false_iff, decide_eq_false_iff_not] at this ⊢
  omega
theorem sep_digit {m : List UInt8} (hm : Sep m) : ∀ c, m.head? = some c → digit c = false := by
  intro c hc
  have := hm c hc
  simp only [digit, blank, decide_eq_true_eq, decide_eq_false_iff_not] at this ⊢
  omega
theorem next_append {m : List UInt8} (hm : Sep m) (c : UInt8) (cs : List UInt8) (k : Nat) (t : List UInt8) (i : Int) (r : List UInt8) (h : next (c :: cs) = .ok (k, t, i, r)) : next (c :: cs ++ m) = .ok (k, t, i, r ++ m) := by
  have ha := tw_append (sep_alnum hm) (c :: cs)
  have hd := tw_append (sep_digit hm) (c :: cs)
  have hs := signOf_append hm c cs
  simp only [List.cons_append] at ha hd hs ⊢
  unfold next at h ⊢
  simp only at h ⊢
  rw [ha.1, ha.2, hd.1, hd.2, hs]
  split at h
  · rename_i hc
    rw [if_pos hc]
    split at h
    · cases h
    · rename_i h32
      cases h
      rw [if_neg h32]
  · rename_i hc
    rw [if_neg hc]
    split at h
    · rename_i hg
      rw [if_pos hg]
      split at h
      · cases h
      · rename_i hb
        cases h
        rw [if_neg]
        rw [head_app_letter hm]
        exact hb
    · rename_i hg
      rw [if_neg hg]
      split at h
      · rename_i hq
        rw [if_pos hq]
        cases hx : textGo cs with
        | none => rw [hx] at h; cases h
        | some x =>
          obtain ⟨t1, r1⟩ := x
          rw [hx] at h
          cases h
          rw [textGo_append (sep_ne hm 39 (by decide)) _ cs (Nat.le_refl _) _ _ hx]
      · rename_i hq
        rw [if_neg hq]
        cases hx : signOf (c :: cs) 0 with
        | none => rw [hx] at h; cases h
        | some g =>
          rw [hx] at h
          cases h
          have := (signOf_pre hx).length_le
          simp only
          rw [← List.cons_append, List.drop_append_of_le_length this]
theorem next_prefix {q : List UInt8} (c : UInt8) (cs : List UInt8) (k : Nat) (t : List UInt8) (i : Int) (r : List UInt8) (h : next (c :: cs ++ q) = .ok (k, t, i, r ++ q)) : next (c :: cs) = .ok (k, t, i, r) := by
  have ha := fun d => tw_prefix (p := alnum) (q := q) (c :: cs) d
  have hd := fun d => tw_prefix (p := digit) (q := q) (c :: cs) d
  simp only [List.cons_append] at ha hd h ⊢
  unfold next at h ⊢
  simp only at h ⊢
  split at h
  · rename_i hc
    rw [if_pos hc]
    split at h
    · cases h
    · rename_i h32
      simp only [Except.ok.injEq, Prod.mk.injEq] at h
      obtain ⟨rfl, rfl, rfl, h⟩ := h
      obtain ⟨h1, h2⟩ := ha _ h
      rw [h1] at h32
      rw [h1, h2, if_neg h32]
  · rename_i hc
    rw [if_neg hc]
    split at h
    · rename_i hg
      rw [if_pos hg]
      split at h
      · cases h
      · rename_i hb
        simp only [Except.ok.injEq, Prod.mk.injEq] at h
        obtain ⟨rfl, rfl, rfl, h⟩ := h
        obtain ⟨h1, h2⟩ := hd _ h
        rw [h1, h] at hb
        rw [h1, h2, if_neg]
        rintro (h3 | h3 | h3)
        · exact hb (Or.inl h3)
        · exact hb (Or.inr (Or.inl h3))
        · refine hb (Or.inr (Or.inr ?_))
          cases r with
          | nil => simp at h3
          | cons y ys => simpa using h3
    · rename_i hg
      rw [if_neg hg]
      split at h
      · rename_i hq
        rw [if_pos hq]
        cases hx : textGo (cs ++ q) with
        | none => rw [hx] at h; cases h
        | some x =>
          obtain ⟨t1, r1⟩ := x
          rw [hx] at h
          simp only [Except.ok.injEq, Prod.mk.injEq] at h
          obtain ⟨rfl, rfl, rfl, rfl⟩ := h
          rw [textGo_prefix _ cs (Nat.le_refl _) _ _ hx]
      · rename_i hq
        rw [if_neg hq]
        cases hx : signOf (c :: (cs ++ q)) 0 with
        | none => rw [hx] at h; cases h
        | some g =>
          rw [hx] at h
          simp only [Except.ok.injEq, Prod.mk.injEq] at h
          obtain ⟨rfl, rfl, rfl, h⟩ := h
          obtain ⟨h1, h2⟩ := signOf_prefix (l := c :: cs) (q := q) hx h
          rw [h1]
          simp only
          rw [h2]
end Tk
end Go.Proofs.YteoleblodhgheaaDoor
