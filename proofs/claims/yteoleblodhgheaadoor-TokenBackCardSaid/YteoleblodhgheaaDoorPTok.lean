/- Plain functions on lists of bytes: what the layer 'token' computes. No program in sight. -/
import Derived.Below
namespace Go.Proofs.YteoleblodhgheaaDoor
namespace Tk
def letter (c : UInt8) : Bool := decide (97 ≤ c.toNat ∧ c.toNat ≤ 122 ∨ 65 ≤ c.toNat ∧ c.toNat ≤ 90 ∨ c.toNat = 95)
def digit (c : UInt8) : Bool := decide (48 ≤ c.toNat ∧ c.toNat ≤ 57)
def alnum (c : UInt8) : Bool := letter c || digit c
def blank (c : UInt8) : Bool := decide (c.toNat = 32 ∨ c.toNat = 9 ∨ c.toNat = 10 ∨ c.toNat = 13)
def lower1 (c : UInt8) : UInt8 := if 65 ≤ c.toNat ∧ c.toNat ≤ 90 then c + 32 else c
def notnl (c : UInt8) : Bool := decide (c.toNat ≠ 10)
def quote (c : UInt8) : Bool := decide (c.toNat = 39)
/-- How far bytes go that are so, from a place on. -/
def far (p : UInt8 → Bool) (l : List UInt8) (k : Nat) : Nat := k + ((l.drop k).takeWhile p).length
theorem far_ge (p : UInt8 → Bool) (l : List UInt8) (k : Nat) : k ≤ far p l k := by unfold far; omega
theorem far_le (p : UInt8 → Bool) (l : List UInt8) (k : Nat) (h : k ≤ l.length) : far p l k ≤ l.length := by
  unfold far
  have := List.takeWhile_prefix (p := p) (l := l.drop k)
  have := this.length_le
  simp only [List.length_drop] at this
  omega
theorem take_far (p : UInt8 → Bool) (l : List UInt8) (k : Nat) : (l.drop k).take (far p l k - k) = (l.drop k).takeWhile p := by
  unfold far
  rw [Nat.add_sub_cancel_left]
  exact (List.prefix_iff_eq_take.1 (List.takeWhile_prefix p)).symm
theorem alnum_ascii {c : UInt8} (h : alnum c = true) : c.toNat < 128 := by
  simp only [alnum, letter, digit, Bool.or_eq_true, decide_eq_true_eq] at h
  omega
theorem takeWhile_all (p : UInt8 → Bool) (l : List UInt8) : ∀ c ∈ l.takeWhile p, p c = true := by
  induction l with
  | nil => simp
  | cons a l ih =>
    intro c hc
    rw [List.takeWhile_cons] at hc
    split at hc
    · rcases List.mem_cons.1 hc with rfl | hc
      · assumption
      · exact ih c hc
    · simp at hc
theorem far_yes (p : UInt8 → Bool) (l : List UInt8) (k : Nat) (h : k < l.length) (hp : p l[k] = true) : far p l (k + 1) = far p l k := by
  unfold far
  rw [List.drop_eq_getElem_cons h, List.takeWhile_cons, if_pos hp]
  simp only [List.length_cons]
  omega
theorem far_no (p : UInt8 → Bool) (l : List UInt8) (k : Nat) (h : k < l.length) (hp : p l[k] = false) : far p l k = k := by
  unfold far
  rw [List.drop_eq_getElem_cons h, List.takeWhile_cons, if_neg (by simp [hp])]
  rfl
theorem far_end (p : UInt8 → Bool) (l : List UInt8) (k : Nat) (h : l.length ≤ k) : far p l k = k := by
  unfold far
  rw [List.drop_eq_nil_of_le h]
  rfl

/-- Behind blanks and comments; true: within a comment. -/
def skip : Bool → List UInt8 → List UInt8
  | _, [] => []
  | true, c :: cs => skip (notnl c) cs
  | false, c :: cs => if blank c then skip false cs else if c = 45 ∧ cs.head? = some 45 then skip true cs else c :: cs
/-- Where blanks and comments from a place on end. -/
def skipAt (l : List UInt8) (k : Nat) : Nat := l.length - (skip false (l.drop k)).length
theorem skip_length (b : Bool) (l : List UInt8) : (skip b l).length ≤ l.length := by
  induction l generalizing b with
  | nil => cases b <;> simp [skip]
  | cons c cs ih =>
    cases b
    · simp only [skip]
      split
      · have := ih false; simp only [List.length_cons]; omega
      · split
        · have := ih true; simp only [List.length_cons]; omega
        · exact Nat.le_refl _
    · simp only [skip]
      have := ih (notnl c); simp only [List.length_cons]; omega
theorem drop_skip (b : Bool) (l : List UInt8) : l.drop (l.length - (skip b l).length) = skip b l := by
  induction l generalizing b with
  | nil => cases b <;> simp [skip]
  | cons c cs ih =>
    have hd : ∀ b, (c :: cs).drop ((c :: cs).length - (skip b cs).length) = skip b cs := by
      intro b
      have h1 := skip_length b cs
      have : (c :: cs).length - (skip b cs).length = (cs.length - (skip b cs).length) + 1 := by simp only [List.length_cons]; omega
      rw [this, List.drop_succ_cons, ih]
    cases b
    · simp only [skip]
      split
      · exact hd false
      · split
        · exact hd true
        · simp
    · simp only [skip]
      exact hd _
theorem skipAt_le (l : List UInt8) (k : Nat) : skipAt l k ≤ l.length := by unfold skipAt; omega
theorem skipAt_drop (l : List UInt8) (k : Nat) : l.drop (skipAt l k) = skip false (l.drop k) := by
  unfold skipAt
  have h := drop_skip false (l.drop k)
  rw [List.drop_drop, List.length_drop] at h
  have h1 := skip_length false (l.drop k)
  rw [List.length_drop] at h1
  by_cases hk : k ≤ l.length
  · rw [← h]
    congr 1
    rw [h]
    omega
  · have e : l.drop k = [] := List.drop_eq_nil_of_le (by omega)
    rw [e]
    simp [skip]
theorem skip_far_blank (l : List UInt8) : skip false l = skip false (l.dropWhile blank) := by
  induction l with
  | nil => rfl
  | cons c cs ih =>
    rw [List.dropWhile_cons]
    split
    · rename_i h
      rw [← ih, skip, if_pos h]
    · rfl
theorem skip_comment (l : List UInt8) : skip true l = skip false (l.dropWhile notnl) := by
  induction l with
  | nil => rfl
  | cons c cs ih =>
    rw [List.dropWhile_cons, skip]
    cases h : notnl c
    · simp only [Bool.false_eq_true, if_false]
      have : blank c = true := by
        simp only [notnl, ne_eq, decide_not, Bool.not_eq_eq_eq_not, Bool.not_false, decide_eq_true_eq] at h
        simp [blank, h]
      rw [skip, if_pos this]
    · simp only [if_true]
      exact ih
theorem drop_far (p : UInt8 → Bool) (l : List UInt8) (k : Nat) : l.drop (far p l k) = (l.drop k).dropWhile p := by
  unfold far
  rw [← List.drop_drop]
  generalize l.drop k = r
  induction r with
  | nil => rfl
  | cons c cs ih =>
    rw [List.takeWhile_cons, List.dropWhile_cons]
    split
    · simpa using ih
    · rfl
theorem skip_dashes (l : List UInt8) (h : [45, 45].isPrefixOf l = true) : skip false l = skip true l := by
  match l, h with
  | [], h => simp at h
  | [c], h => simp at h
  | c :: d :: cs, h =>
    simp only [List.isPrefixOf, Bool.and_true, Bool.and_eq_true, beq_iff_eq] at h
    obtain ⟨rfl, rfl⟩ := h
    have hb : blank 45 = false := by decide
    have hn : notnl 45 = true := by decide
    simp [skip, hb, hn]
theorem skip_stop (l : List UInt8) (h : [45, 45].isPrefixOf (l.dropWhile blank) = false) : skip false l = l.dropWhile blank := by
  rw [skip_far_blank]
  cases hl : l.dropWhile blank with
  | nil => rfl
  | cons c cs =>
    have hb : blank c = false := by
      have := List.head?_dropWhile_not blank l
      rw [hl] at this
      simpa using this
    rw [hl] at h
    rw [skip, hb]
    have : ¬ (c = 45 ∧ cs.head? = some 45) := by
      rintro ⟨rfl, h2⟩
      cases cs with
      | nil => simp at h2
      | cons d ds =>
        simp only [List.head?_cons, Option.some.injEq] at h2
        subst h2
        simp at h
    simp [this]
/-- A round of the loop: blanks, and then no comment, or one. -/
theorem skipAt_stop (l : List UInt8) (k : Nat) (hk : k ≤ l.length) (h : [45, 45].isPrefixOf (l.drop (far blank l k)) = false) : skipAt l k = far blank l k := by
  have h1 := far_le blank l k hk
  rw [drop_far] at h
  have e : skip false (l.drop k) = l.drop (far blank l k) := by rw [skip_stop _ h, drop_far]
  unfold skipAt
  rw [e, List.length_drop]
  omega
theorem skipAt_on (l : List UInt8) (k : Nat) (h : [45, 45].isPrefixOf (l.drop (far blank l k)) = true) : skipAt l (far notnl l (far blank l k)) = skipAt l k := by
  unfold skipAt
  congr 2
  rw [drop_far, ← skip_comment, ← skip_dashes _ h, drop_far, ← skip_far_blank]
theorem far_dashes (l : List UInt8) (k : Nat) (h : [45, 45].isPrefixOf (l.drop k) = true) : k < far notnl l k := by
  unfold far
  cases hd : l.drop k with
  | nil => rw [hd] at h; simp at h
  | cons c cs =>
    rw [hd] at h
    simp only [List.isPrefixOf, Bool.and_eq_true, beq_iff_eq] at h
    have hn : notnl c = true := by rw [← h.1]; decide
    rw [List.takeWhile_cons, if_pos hn]
    simp only [List.length_cons]
    omega

/-- A text behind its opening quote: its bytes, and what stands behind the closing one. -/
def textGo : List UInt8 → Option (List UInt8 × List UInt8)
  | [] => none
  | c :: cs =>
    if c = 39 then
      match cs with
      | d :: ds => if d = 39 then (textGo ds).map fun r => (39 :: r.1, r.2) else some ([], d :: ds)
      | [] => some ([], [])
    else (textGo cs).map fun r => (c :: r.1, r.2)
theorem textGo_byte (c : UInt8) (cs : List UInt8) (h : c ≠ 39) : textGo (c :: cs) = (textGo cs).map fun r => (c :: r.1, r.2) := by
  conv => lhs; unfold textGo
  simp only [if_neg h]
theorem textGo_quote (cs : List UInt8) : textGo (39 :: 39 :: cs) = (textGo cs).map fun r => (39 :: r.1, r.2) := by
  conv => lhs; unfold textGo
  simp
theorem textGo_stop (d : UInt8) (cs : List UInt8) (h : d ≠ 39) : textGo (39 :: d :: cs) = some ([], d :: cs) := by
  conv => lhs; unfold textGo
  simp [h]
theorem textGo_end : textGo [39] = some ([], []) := by
  unfold textGo
  simp
/-- acc: what was read already. -/
def textOn (acc : List UInt8) (l : List UInt8) : Option (List UInt8 × List UInt8) := (textGo l).map fun r => (acc ++ r.1, r.2)
theorem textOn_nil (acc : List UInt8) : textOn acc [] = none := rfl
theorem textOn_byte (acc : List UInt8) (c : UInt8) (cs : List UInt8) (h : c ≠ 39) : textOn acc (c :: cs) = textOn (acc ++ [c]) cs := by
  simp only [textOn, textGo_byte c cs h]
  cases textGo cs <;> simp
theorem textOn_quote (acc : List UInt8) (cs : List UInt8) : textOn acc (39 :: 39 :: cs) = textOn (acc ++ [39]) cs := by
  simp only [textOn, textGo_quote]
  cases textGo cs <;> simp
theorem textOn_end (acc : List UInt8) : textOn acc [39] = some (acc, []) := by simp [textOn, textGo_end]
theorem textOn_stop (acc : List UInt8) (d : UInt8) (cs : List UInt8) (h : d ≠ 39) : textOn acc (39 :: d :: cs) = some (acc, d :: cs) := by simp [textOn, textGo_stop d cs h]
theorem textOn_empty (l : List UInt8) : textOn [] l = textGo l := by
  unfold textOn
  cases textGo l <;> simp
theorem textGo_length (n : Nat) : ∀ l : List UInt8, l.length ≤ n → ∀ r, textGo l = some r → r.2.length ≤ l.length := by
  induction n with
  | zero =>
    intro l hl r h
    obtain rfl : l = [] := List.length_eq_zero_iff.1 (by omega)
    simp [textGo] at h
  | succ n ih =>
    intro l hl r h
    match l, hl, h with
    | [], _, h => simp [textGo] at h
    | c :: cs, hl, h =>
      simp only [List.length_cons] at hl ⊢
      by_cases hc : c = 39
      · subst hc
        match cs, hl, h with
        | [], _, h => rw [textGo_end] at h; simp only [Option.some.injEq] at h; subst h; simp
        | d :: ds, hl, h =>
          by_cases hd : d = 39
          · subst hd
            rw [textGo_quote, Option.map_eq_some_iff] at h
            obtain ⟨a, ha, rfl⟩ := h
            simp only [List.length_cons] at hl ⊢
            have := ih ds (by omega) a ha
            omega
          · rw [textGo_stop d ds hd] at h; simp only [Option.some.injEq] at h; subst h; simp
      · rw [textGo_byte c cs hc, Option.map_eq_some_iff] at h
        obtain ⟨a, ha, rfl⟩ := h
        have := ih cs (by omega) a ha
        simp only; omega
end Tk
end Go.Proofs.YteoleblodhgheaaDoor
