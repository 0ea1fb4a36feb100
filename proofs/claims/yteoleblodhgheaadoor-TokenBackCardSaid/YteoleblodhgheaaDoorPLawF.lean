/- How long what is written anew is; where words stand. No program in sight. -/
import Derived.Test.YteoleblodhgheaaDoorPLawE
namespace Go.Proofs.YteoleblodhgheaaDoor
namespace Tk
theorem textGo_text (n : Nat) : ∀ l : List UInt8, l.length ≤ n → ∀ t r, textGo l = some (t, r) → t.length ≤ l.length := by
  induction n with
  | zero =>
    intro l hl t r h
    obtain rfl : l = [] := List.eq_nil_of_length_eq_zero (by omega)
    simp [textGo] at h
  | succ n ih =>
    intro l hl t r h
    match l, hl, h with
    | [], _, h => simp [textGo] at h
    | c :: cs, hl, h =>
      by_cases hc : c = 39
      · subst hc
        match cs, hl, h with
        | [], _, h => rw [textGo_end] at h; cases h; simp
        | d :: ds, hl, h =>
          by_cases hd : d = 39
          · subst hd
            rw [textGo_quote] at h
            cases hx : textGo ds with
            | none => rw [hx] at h; simp at h
            | some x =>
              obtain ⟨t1, r1⟩ := x
              rw [hx] at h
              simp only [Option.map_some, Option.some.injEq, Prod.mk.injEq] at h
              obtain ⟨rfl, rfl⟩ := h
              have := ih ds (by simp at hl; omega) _ _ hx
              simp only [List.length_cons]; omega
          · rw [textGo_stop d ds hd] at h
            cases h; simp
      · rw [textGo_byte c cs hc] at h
        cases hx : textGo cs with
        | none => rw [hx] at h; simp at h
        | some x =>
          obtain ⟨t1, r1⟩ := x
          rw [hx] at h
          simp only [Option.map_some, Option.some.injEq, Prod.mk.injEq] at h
          obtain ⟨rfl, rfl⟩ := h
          have := ih cs (by simp at hl; omega) _ _ hx
          simp only [List.length_cons]; omega
theorem next_text {l : List UInt8} {k : Nat} {t : List UInt8} {i : Int} {r : List UInt8} (h : next l = .ok (k, t, i, r)) : t.length ≤ l.length := by
  match l, h with
  | [], h => simp [next] at h
  | c :: cs, h =>
    unfold next at h
    simp only at h
    split at h
    · split at h
      · cases h
      · simp only [Except.ok.injEq, Prod.mk.injEq] at h
        obtain ⟨rfl, rfl, rfl, _⟩ := h
        rw [List.length_map]
        exact (List.takeWhile_prefix _).length_le
    · split at h
      · split at h
        · cases h
        · simp only [Except.ok.injEq, Prod.mk.injEq] at h
          obtain ⟨rfl, rfl, rfl, _⟩ := h
          simp
      · split at h
        · cases hx : textGo cs with
          | none => rw [hx] at h; cases h
          | some x =>
            obtain ⟨t1, r1⟩ := x
            rw [hx] at h
            simp only [Except.ok.injEq, Prod.mk.injEq] at h
            obtain ⟨rfl, rfl, rfl, rfl⟩ := h
            have := textGo_text _ cs (Nat.le_refl _) _ _ hx
            simp only [List.length_cons]; omega
        · cases hx : signOf (c :: cs) 0 with
          | none => rw [hx] at h; cases h
          | some g =>
            rw [hx] at h
            simp only [Except.ok.injEq, Prod.mk.injEq] at h
            obtain ⟨rfl, rfl, rfl, _⟩ := h
            exact (signOf_pre hx).length_le
theorem Reads.texts {l r : List UInt8} {ws : List Word} (h : Reads l ws r) : ∀ x ∈ ws, x.2.1.length ≤ l.length := by
  induction h with
  | nil l => intro x hx; cases hx
  | cons a b c ih =>
    rename_i l x xs k t i r1 ws r2
    intro y hy
    have h1 := skip_length false l
    rw [a] at h1
    have h2 := next_length _ _ _ _ _ b
    rcases List.mem_cons.1 hy with rfl | hy
    · have := next_text b
      show t.length ≤ _
      omega
    · have := ih y hy
      omega
theorem quoteL_len (a : List UInt8) : (quoteL a).length ≤ 2 * a.length := by
  induction a with
  | nil => simp [quoteL]
  | cons c cs ih =>
    have e : quoteL (c :: cs) = (if c = 39 then [39, 39] else [c]) ++ quoteL cs := rfl
    rw [e, List.length_append]
    split <;> simp only [List.length_cons, List.length_nil] <;> omega
theorem digitsL_len : ∀ (k n : Nat), n < 10 ^ (k + 1) → (digitsL n).length ≤ k + 1 := by
  intro k
  induction k with
  | zero => intro n h; rw [digitsL_small (by omega)]; simp
  | succ k ih =>
    intro n h
    by_cases h10 : n < 10
    · rw [digitsL_small h10]; simp
    · rw [digitsL_more h10, List.length_append]
      have := ih (n / 10) (by rw [Nat.div_lt_iff_lt_mul (by decide)]; rw [Nat.pow_succ] at h; exact h)
      simp only [List.length_cons, List.length_nil]
      omega
theorem written_len {k : Nat} {t : List UInt8} {i : Int} (caps : Bool) (h : TokOk k t i) (ht : t.length ≤ 1000) : (writtenL k t i caps).length ≤ 2002 := by
  rcases h with ⟨rfl, _⟩ | ⟨rfl, rfl, h0, h1⟩ | ⟨rfl, _⟩ | ⟨rfl, _⟩
  · unfold writtenL
    rw [if_pos rfl]
    split
    · rw [List.length_map]; omega
    · omega
  · have e : writtenL 2 [] i caps = digitsL i.toNat := rfl
    rw [e]
    have := digitsL_len 18 i.toNat (by omega)
    omega
  · have e : writtenL 3 t i caps = 39 :: (quoteL t ++ [39]) := rfl
    rw [e]
    have := quoteL_len t
    simp only [List.length_cons, List.length_append, List.length_nil]
    omega
  · have e : writtenL 4 t i caps = t := rfl
    rw [e]
    omega
theorem gap_len (b : Nat) : (gapL b).length ≤ 11 := by
  unfold gapL
  split
  · decide
  · split
    · decide
    · split <;> decide
theorem build_len (g : Nat → Nat) (caps : Bool) : ∀ (ts : List Tok) (i : Nat), (∀ t ∈ ts, TokOk t.kind t.text t.int ∧ t.text.length ≤ 1000) → (build g caps i ts).length ≤ ts.length * 2013 := by
  intro ts
  induction ts with
  | nil => intro i _; simp [build]
  | cons t ts ih =>
    intro i h
    have h1 := ih (i + 1) fun x hx => h x (by simp [hx])
    have h2 := written_len caps (h t (by simp)).1 (h t (by simp)).2
    have h3 := gap_len (g i)
    simp only [build, List.length_append, List.length_cons]
    omega
theorem build_take (g : Nat → Nat) (caps : Bool) (ts : List Tok) (j : Nat) (t : Tok) (h : ts[j]? = some t) : build g caps 0 (ts.take (j + 1)) = build g caps 0 (ts.take j) ++ gapL (g j) ++ writtenL t.kind t.text t.int caps := by
  obtain ⟨hj, rfl⟩ := List.getElem?_eq_some_iff.1 h
  rw [List.take_succ_eq_append_getElem hj, build_app, List.length_take, Nat.min_eq_left (Nat.le_of_lt hj)]
  simp [build]
/-- What Lex tells of a text without an error. -/
structure Told (n : Nat) (ts : List Tok) : Prop where
  ok : ∀ t ∈ ts, TokOk t.kind t.text t.int ∧ t.text.length ≤ n
  len : ts.length ≤ n
  pos : ∀ (i : Nat) (t : Tok), ts[i]? = some t → t.pos < n
  rise : ∀ (i : Nat) (t u : Tok), ts[i]? = some t → ts[i + 1]? = some u → t.pos < u.pos
theorem told_of {l r : List UInt8} {ws : List Word} (h : Reads l ws r) : Told l.length (toks l.length ws) := by
  refine ⟨?_, ?_, ?_, ?_⟩
  · intro t ht
    simp only [toks, List.mem_map] at ht
    obtain ⟨x, hx, rfl⟩ := ht
    exact ⟨h.ok x hx, h.texts x hx⟩
  · rw [toks_length]
    have := h.len
    omega
  · intro i t ht
    simp only [toks, List.getElem?_map, Option.map_eq_some_iff] at ht
    obtain ⟨x, hx, rfl⟩ := ht
    have := h.bound x (List.mem_of_getElem? hx)
    simp only [tok1]
    omega
  · intro i t u ht hu
    simp only [toks, List.getElem?_map, Option.map_eq_some_iff] at ht hu
    obtain ⟨x, hx, rfl⟩ := ht
    obtain ⟨y, hy, rfl⟩ := hu
    have a := h.falls i x y hx hy
    have b := h.bound x (List.mem_of_getElem? hx)
    have c := h.bound y (List.mem_of_getElem? hy)
    simp only [tok1]
    omega
end Tk
end Go.Proofs.YteoleblodhgheaaDoor
