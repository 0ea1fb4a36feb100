/- A statement's words. -/
import Derived.Test.YteoleblodhgheaaDoorPTok3
namespace Go.Proofs.YteoleblodhgheaaDoor
namespace Tk
structure Tok where
  kind : Nat
  text : List UInt8
  int : Int
  pos : Nat
  deriving DecidableEq
/-- The words from a place on behind blanks (n: the statement's length; f: more than what is left; acc: the words ahead). -/
def lexAcc (n : Nat) : Nat → List Tok → List UInt8 → List Tok × Nat × Nat
  | 0, _, _ => ([], 0, 0)
  | f + 1, acc, l =>
    match l with
    | [] => (acc ++ [⟨0, [], 0, n⟩], 0, 0)
    | c :: cs =>
      match next (c :: cs) with
      | .error e => ([], n - (c :: cs).length, e)
      | .ok (kd, t, i, r) => lexAcc n f (acc ++ [⟨kd, t, i, n - (c :: cs).length⟩]) (skip false r)
def lex (l : List UInt8) : List Tok × Nat × Nat := if 4096 < l.length then ([], 0, 2) else lexAcc l.length (l.length + 1) [] (skip false l)
theorem next_length (l : List UInt8) (kd : Nat) (t : List UInt8) (i : Int) (r : List UInt8) (h : next l = .ok (kd, t, i, r)) : r.length < l.length := by
  have dw : ∀ (p : UInt8 → Bool) (c : UInt8) (cs : List UInt8), p c = true → ((c :: cs).dropWhile p).length < (c :: cs).length := by
    intro p c cs hp
    rw [List.dropWhile_cons, if_pos hp]
    have := (List.dropWhile_suffix p (l := cs)).length_le
    simp only [List.length_cons]; omega
  match l, h with
  | [], h => simp [next] at h
  | c :: cs, h =>
    simp only [next] at h
    split at h
    · rename_i h1
      split at h
      · simp at h
      · simp only [Except.ok.injEq, Prod.mk.injEq] at h
        obtain ⟨_, _, _, rfl⟩ := h
        exact dw _ _ _ (by simp [alnum, h1])
    · split at h
      · rename_i h2
        split at h
        · simp at h
        · simp only [Except.ok.injEq, Prod.mk.injEq] at h
          obtain ⟨_, _, _, rfl⟩ := h
          exact dw _ _ _ h2
      · split at h
        · split at h
          · simp at h
          · rename_i t' r' ht
            simp only [Except.ok.injEq, Prod.mk.injEq] at h
            obtain ⟨_, _, _, rfl⟩ := h
            have := textGo_length cs.length cs (Nat.le_refl _) _ ht
            simp only [List.length_cons]
            simp only at this
            omega
        · split at h
          · simp at h
          · rename_i g hg
            simp only [Except.ok.injEq, Prod.mk.injEq] at h
            obtain ⟨_, _, _, rfl⟩ := h
            have hm := List.mem_of_find?_eq_some hg
            have : ∀ x ∈ signs, 1 ≤ x.length := by decide
            have := this g (by simpa using hm)
            rw [List.length_drop]
            simp only [List.length_cons]; omega
theorem textGo_suffix (n : Nat) : ∀ l : List UInt8, l.length ≤ n → ∀ r, textGo l = some r → r.2 <:+ l := by
  induction n with
  | zero =>
    intro l hl r h
    obtain rfl : l = [] := List.length_eq_zero_iff.1 (by omega)
    simp [textGo] at h
  | succ n ih =>
    intro l hl r h
    match l, hl, h with
    | [], _, h => simp [textGo] at h
    | c :: cs, hl, h =>
      simp only [List.length_cons] at hl
      by_cases hc : c = 39
      · subst hc
        match cs, hl, h with
        | [], _, h => rw [textGo_end] at h; simp only [Option.some.injEq] at h; subst h; exact List.nil_suffix
        | d :: ds, hl, h =>
          by_cases hd : d = 39
          · subst hd
            rw [textGo_quote, Option.map_eq_some_iff] at h
            obtain ⟨a, ha, rfl⟩ := h
            simp only [List.length_cons] at hl
            exact (ih ds (by omega) a ha).trans ((List.suffix_cons _ _).trans (List.suffix_cons _ _))
          · rw [textGo_stop d ds hd] at h; simp only [Option.some.injEq] at h; subst h; exact List.suffix_cons _ _
      · rw [textGo_byte c cs hc, Option.map_eq_some_iff] at h
        obtain ⟨a, ha, rfl⟩ := h
        exact (ih cs (by omega) a ha).trans (List.suffix_cons _ _)
theorem next_suffix (l : List UInt8) (kd : Nat) (t : List UInt8) (i : Int) (r : List UInt8) (h : next l = .ok (kd, t, i, r)) : r <:+ l := by
  match l, h with
  | [], h => simp [next] at h
  | c :: cs, h =>
    simp only [next] at h
    split at h
    · split at h
      · simp at h
      · simp only [Except.ok.injEq, Prod.mk.injEq] at h
        obtain ⟨_, _, _, rfl⟩ := h
        exact List.dropWhile_suffix _
    · split at h
      · split at h
        · simp at h
        · simp only [Except.ok.injEq, Prod.mk.injEq] at h
          obtain ⟨_, _, _, rfl⟩ := h
          exact List.dropWhile_suffix _
      · split at h
        · split at h
          · simp at h
          · rename_i t' r' ht
            simp only [Except.ok.injEq, Prod.mk.injEq] at h
            obtain ⟨_, _, _, rfl⟩ := h
            exact (textGo_suffix cs.length cs (Nat.le_refl _) _ ht).trans (List.suffix_cons _ _)
        · split at h
          · simp at h
          · simp only [Except.ok.injEq, Prod.mk.injEq] at h
            obtain ⟨_, _, _, rfl⟩ := h
            exact List.drop_suffix _ _
theorem next_err (l : List UInt8) (e : Nat) (h : next l = .error e) : e = 2 ∨ e = 30 := by
  match l, h with
  | [], h => simp only [next, Except.error.injEq] at h; omega
  | c :: cs, h =>
    simp only [next] at h
    repeat' split at h
    all_goals first | (simp only [Except.error.injEq] at h; omega) | (simp at h; done)
end Tk
end Go.Proofs.YteoleblodhgheaaDoor
