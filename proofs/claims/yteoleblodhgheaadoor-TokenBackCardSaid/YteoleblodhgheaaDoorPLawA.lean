/- Names and reserved words are told as they are. No program in sight. -/
import Derived.Test.YteoleblodhgheaaDoorPTok4
namespace Go.Proofs.YteoleblodhgheaaDoor
namespace Tk
theorem lexAcc_nil (n f : Nat) (acc : List Tok) : lexAcc n (f + 1) acc [] = (acc ++ [⟨0, [], 0, n⟩], 0, 0) := rfl
theorem lexAcc_cons (n f : Nat) (acc : List Tok) (c : UInt8) (cs : List UInt8) : lexAcc n (f + 1) acc (c :: cs) = match next (c :: cs) with
      | .error e => ([], n - (c :: cs).length, e)
      | .ok (kd, t, i, r) => lexAcc n f (acc ++ [⟨kd, t, i, n - (c :: cs).length⟩]) (skip false r) := rfl
theorem letter_blank {c : UInt8} (h : letter c = true) : blank c = false := by
  simp only [letter, blank, decide_eq_true_eq, decide_eq_false_iff_not] at h ⊢
  omega
theorem letter_alnum {c : UInt8} (h : letter c = true) : alnum c = true := by simp [alnum, h]
theorem skip_letter {c : UInt8} (cs : List UInt8) (h : letter c = true) : skip false (c :: cs) = c :: cs := by
  have hd : (c :: cs).dropWhile blank = c :: cs := by rw [List.dropWhile_cons, if_neg (by simp [letter_blank h])]
  have hc : c ≠ 45 := by rintro rfl; revert h; decide
  rw [skip_stop (c :: cs) (by rw [hd]; simp [List.isPrefixOf]; intro e; exact absurd e.symm hc), hd]
theorem takeWhile_eq {p : UInt8 → Bool} {l : List UInt8} (h : ∀ x ∈ l, p x = true) : l.takeWhile p = l := by
  induction l with
  | nil => rfl
  | cons x xs ih => rw [List.takeWhile_cons, if_pos (h x (by simp)), ih fun y hy => h y (by simp [hy])]
theorem dropWhile_eq {p : UInt8 → Bool} {l : List UInt8} (h : ∀ x ∈ l, p x = true) : l.dropWhile p = [] := by
  induction l with
  | nil => rfl
  | cons x xs ih => rw [List.dropWhile_cons, if_pos (h x (by simp)), ih fun y hy => h y (by simp [hy])]
/-- Words of small letters, digits and '_' that begin with no digit are told as they are. -/
theorem lex_word (c : UInt8) (cs : List UInt8) (hc : letter c = true) (hl : (c :: cs).length ≤ 32) (ha : ∀ x ∈ c :: cs, alnum x = true ∧ lower1 x = x) :
    lex (c :: cs) = ([⟨1, c :: cs, 0, 0⟩, ⟨0, [], 0, (c :: cs).length⟩], 0, 0) := by
  have ht : (c :: cs).takeWhile alnum = c :: cs := takeWhile_eq fun x hx => (ha x hx).1
  have hd : (c :: cs).dropWhile alnum = [] := dropWhile_eq fun x hx => (ha x hx).1
  have hm : (c :: cs).map lower1 = c :: cs := by
    conv => rhs; rw [← List.map_id (c :: cs)]
    exact List.map_congr_left fun x hx => (ha x hx).2
  have hn : next (c :: cs) = .ok (1, c :: cs, 0, []) := by
    unfold next
    simp only [hc, if_true]
    rw [ht, hd, hm, if_neg (by omega)]
  unfold lex
  rw [if_neg (by omega), skip_letter cs hc]
  have h2 : (c :: cs).length + 1 = (cs.length + 1) + 1 := rfl
  rw [h2, lexAcc_cons, hn]
  show lexAcc (c :: cs).length (cs.length + 1) ([] ++ [⟨1, c :: cs, 0, (c :: cs).length - (c :: cs).length⟩]) [] = _
  rw [lexAcc_nil, Nat.sub_self]
  rfl
theorem name_parts {c : UInt8} {cs : List UInt8} (h : name (c :: cs) = true) : (c :: cs).length ≤ 32 ∧ reserved (c :: cs) = false ∧ digit c = false ∧ ∀ x ∈ c :: cs, ¬ (65 ≤ x.toNat ∧ x.toNat ≤ 90) ∧ alnum x = true := by
  unfold name at h
  simp only [Bool.and_eq_true, decide_eq_true_eq, Bool.not_eq_true', List.all_eq_true, decide_eq_false_iff_not] at h
  exact ⟨h.1.1.1, h.1.1.2, h.1.2, h.2⟩
theorem lower1_small {x : UInt8} (h : ¬ (65 ≤ x.toNat ∧ x.toNat ≤ 90)) : lower1 x = x := by unfold lower1; rw [if_neg h]
def oneWord (s : List UInt8) (R : List Tok × Nat × Nat) : Prop := ∃ x a, R = ([⟨1, s, 0, 0⟩, x], a, 0)
theorem name_word (s : List UInt8) (h : name s = true) : oneWord s (lex s) := by
  match s, h with
  | c :: cs, h =>
    obtain ⟨h1, h2, h3, h4⟩ := name_parts h
    have hc := (h4 c (by simp)).2
    simp only [alnum, h3, Bool.or_false] at hc
    exact ⟨_, _, lex_word c cs hc h1 fun x hx => ⟨(h4 x hx).2, lower1_small (h4 x hx).1⟩⟩
theorem words_lex : ∀ w ∈ words, lex w = ([⟨1, w, 0, 0⟩, ⟨0, [], 0, w.length⟩], 0, 0) := by decide +kernel
theorem reserved_word (s : List UInt8) (h : reserved s = true) : oneWord s (lex s) := ⟨_, _, words_lex s (by simpa [reserved] using h)⟩
theorem skip_suffix (b : Bool) (l : List UInt8) : skip b l <:+ l := by
  rw [← drop_skip b l]; exact List.drop_suffix _ _
theorem lower1_up (c : UInt8) : 65 ≤ c.toNat ∧ c.toNat ≤ 90 → lower1 c ≠ c := by
  intro h e
  unfold lower1 at e
  rw [if_pos h] at e
  have := congrArg UInt8.toNat e
  rw [UInt8.toNat_add] at this
  have h2 : (32 : UInt8).toNat = 32 := rfl
  omega
/-- What is told as one word as it stands may be a name, but for the reserved words. -/
theorem word_name (s : List UInt8) (h : oneWord s (lex s)) : 0 < s.length ∧ name s = !reserved s := by
  obtain ⟨x, a, h⟩ := h
  unfold lex at h
  split at h
  · simp at h
  rename_i hlen
  cases hk : skip false s with
  | nil => rw [hk, lexAcc_nil] at h; simp at h
  | cons c cs =>
  rw [hk, lexAcc_cons] at h
  have hsuf := skip_suffix false s
  rw [hk] at hsuf
  split at h
  · simp at h
  rename_i kd t i r hn
  have key : ∀ (f : Nat) (acc : List Tok) (l : List UInt8) (u : Tok) (us : List Tok), acc = u :: us → ∀ R, lexAcc s.length f acc l = R → R.2.2 = 0 → R.1.length = 2 → R.1[0]? = some u := by
    intro f
    induction f with
    | zero => intro acc l u us ha R hR he hl; have hR : ([], 0, 0) = R := hR; subst hR; simp at hl
    | succ f ih =>
      intro acc l u us ha R hR he hl
      cases l with
      | nil =>
        rw [lexAcc_nil] at hR
        subst hR ha
        simp
      | cons c cs =>
        rw [lexAcc_cons] at hR
        split at hR
        · subst hR; simp at hl
        · exact ih _ _ u (us ++ [_]) (by rw [ha]; rfl) R hR he hl
  have hu := key _ _ _ ⟨kd, t, i, s.length - (c :: cs).length⟩ [] rfl _ h rfl rfl
  simp only [List.getElem?_cons_zero, Option.some.injEq, Tok.mk.injEq] at hu
  obtain ⟨rfl, rfl, rfl, hu4⟩ := hu
  unfold next at hn
  simp only at hn
  split at hn
  · rename_i hc
    split at hn
    · simp at hn
    rename_i h32
    simp only [Except.ok.injEq, Prod.mk.injEq, true_and] at hn
    obtain ⟨hm, hrr⟩ := hn
    have hle : ((c :: cs).takeWhile alnum).length ≤ (c :: cs).length := (List.takeWhile_prefix _).length_le
    have hl1 : s.length = ((c :: cs).takeWhile alnum).length := by rw [← hm, List.length_map]
    have hl2 := hsuf.length_le
    have hs : c :: cs = s := hsuf.eq_of_length (by omega)
    have ht : (c :: cs).takeWhile alnum = c :: cs := (List.takeWhile_prefix _).eq_of_length (by omega)
    subst hs
    rw [ht] at hm h32
    refine ⟨by simp, ?_⟩
    have hall : ∀ y ∈ c :: cs, alnum y = true := by
      intro y hy
      rw [← ht] at hy
      exact takeWhile_all alnum _ y hy
    have hlow : ∀ y ∈ c :: cs, ¬ (65 ≤ y.toNat ∧ y.toNat ≤ 90) := by
      intro y hy hup
      have hmm : ∀ l : List UInt8, l.map lower1 = l → ∀ y ∈ l, lower1 y = y := by
        intro l
        induction l with
        | nil => intro _ y hy; cases hy
        | cons z zs ih =>
          intro he y hy
          simp only [List.map_cons, List.cons.injEq] at he
          rcases List.mem_cons.1 hy with rfl | hy
          · exact he.1
          · exact ih he.2 y hy
      exact lower1_up y hup (hmm _ hm y hy)
    show (decide ((c :: cs).length ≤ 32) && !reserved (c :: cs) && !digit c && (c :: cs).all fun x => !(decide (65 ≤ x.toNat ∧ x.toNat ≤ 90)) && alnum x) = _
    have hd : digit c = false := by
      have := hc
      simp only [letter, digit, decide_eq_true_eq, decide_eq_false_iff_not] at this ⊢
      omega
    have h3 : ((c :: cs).all fun x => !(decide (65 ≤ x.toNat ∧ x.toNat ≤ 90)) && alnum x) = true := by
      rw [List.all_eq_true]
      intro y hy
      simp only [Bool.and_eq_true, Bool.not_eq_true', decide_eq_false_iff_not]
      exact ⟨hlow y hy, hall y hy⟩
    rw [h3, hd]
    simp only [Bool.not_false, Bool.and_true]
    rw [decide_eq_true (by omega)]
    simp
  · split at hn
    · split at hn
      · simp at hn
      · simp at hn
    · split at hn
      · split at hn
        · simp at hn
        · simp at hn
      · split at hn
        · simp at hn
        · simp at hn
end Tk
end Go.Proofs.YteoleblodhgheaaDoor
