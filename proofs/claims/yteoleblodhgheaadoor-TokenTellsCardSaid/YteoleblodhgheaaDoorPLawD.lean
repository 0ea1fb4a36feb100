/- What Lex tells of texts that are cut or put together. No program in sight. -/
import Derived.Test.YteoleblodhgheaaDoorPLawC
namespace Go.Proofs.YteoleblodhgheaaDoor
namespace Tk
def shift (d : Nat) (ws : List Word) : List Word := ws.map fun x => (x.1, x.2.1, x.2.2.1, x.2.2.2 + d)
theorem toks_shift (n d : Nat) (ws : List Word) : toks (n + d) (shift d ws) = toks n ws := by
  simp only [toks, shift, List.map_map]
  refine List.map_congr_left fun x _ => ?_
  simp only [Function.comp, tok1]
  congr 1
  omega
theorem Reads.append {m : List UInt8} (hm : Sep m) {p r : List UInt8} {ws : List Word} (h : Reads p ws r) : Reads (p ++ m) (shift m.length ws) (r ++ m) := by
  induction h with
  | nil l => exact .nil _
  | cons h1 h2 h3 ih =>
    have a := skip_append hm _ _ _ _ h1
    have b := next_append hm _ _ _ _ _ _ h2
    rename_i l x xs k t i r1 ws r2
    have c := Reads.cons a b ih
    show Reads _ ((k, t, i, (x :: xs).length + m.length) :: shift m.length ws) _
    rw [← List.length_append]
    exact c
theorem Reads.trans {l r r2 : List UInt8} {ws ws2 : List Word} (h : Reads l ws r) (h2 : Reads r ws2 r2) : Reads l (ws ++ ws2) r2 := by
  induction h with
  | nil l => exact h2
  | cons a b _ ih => exact .cons a b (ih h2)
/-- Only what stands behind blanks counts. -/
theorem Reads.from {l l' r : List UInt8} {ws : List Word} (h : Reads l ws r) (e : skip false l' = skip false l) : ∃ r', Reads l' ws r' ∧ skip false r' = skip false r := by
  cases h with
  | nil l => exact ⟨l', .nil _, e⟩
  | cons a b c => exact ⟨_, .cons (e.trans a) b c, rfl⟩
/-- What stands behind the rest plays no part. -/
theorem Reads.ahead {q l r : List UInt8} {ws : List Word} (h : Reads l ws r) : ∀ p r', l = p ++ q → r = r' ++ q → ∃ ws', ws = shift q.length ws' ∧ Reads p ws' r' := by
  induction h with
  | nil l =>
    intro p r' h1 h2
    have : p = r' := List.append_cancel_right (h1.symm.trans h2)
    subst this
    exact ⟨[], rfl, .nil _⟩
  | cons a b c ih =>
    rename_i l x xs k t i r1 ws r2
    intro p r' h1 h2
    subst h1 h2
    obtain ⟨p1, hp1⟩ : q <:+ r1 := (List.suffix_append r' q).trans c.suffix
    obtain ⟨p0, hp0⟩ : q <:+ x :: xs := ⟨_, (by rw [List.append_assoc, hp1]; exact (next_suffix _ _ _ _ _ b).choose_spec : _ ++ p1 ++ q = _)⟩
    have hlen := next_length _ _ _ _ _ b
    cases p0 with
    | nil =>
      exfalso
      rw [← hp0, ← hp1] at hlen
      simp at hlen
      omega
    | cons y ys =>
      rw [List.cons_append] at hp0
      obtain ⟨rfl, rfl⟩ := List.cons.inj hp0
      subst hp1
      obtain ⟨ws', hw, hr⟩ := ih _ _ rfl rfl
      refine ⟨(k, t, i, (y :: ys).length) :: ws', ?_, .cons (skip_prefix q _ _ _ _ a) (next_prefix _ _ _ _ _ _ b) hr⟩
      rw [hw]
      simp [shift]
      omega
theorem Reads.bound {l r : List UInt8} {ws : List Word} (h : Reads l ws r) : ∀ x ∈ ws, x.2.2.2 ≤ l.length ∧ 0 < x.2.2.2 := by
  induction h with
  | nil l => intro x hx; cases hx
  | cons a b c ih =>
    rename_i l x xs k t i r1 ws r2
    intro y hy
    have h1 := skip_length false l
    rw [a] at h1
    have h2 := next_length _ _ _ _ _ b
    rcases List.mem_cons.1 hy with rfl | hy
    · exact ⟨h1, by simp⟩
    · have := ih y hy
      exact ⟨by omega, this.2⟩
theorem skip_all_prefix (q : List UInt8) : ∀ (p : List UInt8) (b : Bool), skip b (p ++ q) = q → skip b p = [] := by
  intro p b h
  cases hs : skip b p with
  | nil => rfl
  | cons x xs =>
    exfalso
    have : ∀ (p : List UInt8) (b : Bool) (x : UInt8) (xs : List UInt8), skip b p = x :: xs → q.length < (skip b (p ++ q)).length ∨ ∃ y, skip b p = [45] ∧ q = 45 :: y := by
      intro p
      induction p with
      | nil => intro b x xs h; cases b <;> simp [skip] at h
      | cons z zs ih =>
        intro b x xs h
        cases b with
        | true =>
          rw [skip] at h
          rw [List.cons_append, skip, skip]
          exact ih _ _ _ h
        | false =>
          rw [skip] at h
          rw [List.cons_append, skip, skip]
          by_cases hb : blank z = true
          · rw [if_pos hb] at h
            rw [if_pos hb, if_pos hb]
            exact ih _ _ _ h
          · rw [if_neg hb] at h
            rw [if_neg hb, if_neg hb]
            by_cases hc : z = 45 ∧ zs.head? = some 45
            · rw [if_pos hc] at h
              rw [if_pos hc, if_pos ⟨hc.1, by cases zs with | nil => simp at hc | cons y ys => simpa using hc.2⟩]
              exact ih _ _ _ h
            · rw [if_neg hc]
              by_cases hd : z = 45 ∧ (zs ++ q).head? = some 45
              · cases zs with
                | nil =>
                  right
                  cases q with
                  | nil => simp at hd
                  | cons y ys =>
                    simp at hd
                    exact ⟨ys, by rw [hd.1], by rw [hd.2]⟩
                | cons y ys => exact absurd ⟨hd.1, by simpa using hd.2⟩ hc
              · rw [if_neg hd]
                left
                simp
                omega
    rcases this p b x xs hs with h1 | ⟨y, h1, rfl⟩
    · rw [h] at h1
      omega
    · have h2 := skip_mid (45 :: y) (by simp) p b h []
      rw [List.append_nil, h1] at h2
      simp [skip] at h2
/-- An error stands where it is told. -/
theorem cuts_bad {l : List UInt8} {ws : List Word} {r : List UInt8} {c : UInt8} {cs : List UInt8} {e : Nat} (h : Reads l ws r) (he : skip false r = c :: cs) (hx : next (c :: cs) = .error e) (hl : l.length ≤ 1000) :
    lex (l.take (l.length - (c :: cs).length)) = (toks l.length ws ++ [⟨0, [], 0, l.length - (c :: cs).length⟩], 0, 0) ∧
    lex (l.take (l.length - (c :: cs).length) ++ [32, 59, 32] ++ l.drop (l.length - (c :: cs).length)) = ([], l.length - (c :: cs).length + 3, e) := by
  obtain ⟨u, hu⟩ : (c :: cs) <:+ r := by rw [← he]; exact skip_suffix false r
  obtain ⟨p0, hp0⟩ := h.suffix
  have hp : l = (p0 ++ u) ++ (c :: cs) := by rw [List.append_assoc, hu, hp0]
  obtain ⟨ws', hw, hr⟩ := h.ahead (p0 ++ u) u hp hu.symm
  generalize hpp : p0 ++ u = p at hp hr
  generalize hq : c :: cs = q at *
  have hqne : q ≠ [] := by rw [← hq]; simp
  subst hp
  have hlp : (p ++ q).length - q.length = p.length := by simp
  rw [hlp, List.take_left, List.drop_left]
  have hsu : skip false (u ++ q) = q := by rw [hu]; exact he
  rw [List.length_append] at hl
  constructor
  · have := lex_ok hr (skip_all_prefix q u false hsu) (by omega)
    rw [this, hw, List.length_append, toks_shift]
  · have ha := hr.append (m := [32, 59, 32] ++ q) (by intro x hx; simp at hx; subst hx; decide)
    have hs2 : skip false (u ++ ([32, 59, 32] ++ q)) = 59 :: ([32] ++ q) := by
      rw [skip_mid q hqne u false hsu]
      rfl
    have hn2 : next (59 :: ([32] ++ q)) = .ok (4, [59], 0, [32] ++ q) := rfl
    have hs3 : skip false ([32] ++ q) = q := by
      have e1 : skip false ([32] ++ q) = skip false q := rfl
      rw [e1, ← hsu, skip_idem]
    have hb := ha.trans (.cons hs2 hn2 (.nil _))
    have := lex_bad (c := c) (cs := cs) hb (hs3.trans hq.symm) (by rw [hq]; exact hx) (by simp; omega)
    rw [hq] at this
    rw [List.append_assoc, this]
    simp
    omega
theorem cuts_good {l : List UInt8} {ws : List Word} {r : List UInt8} (h : Reads l ws r) (he : skip false r = []) (hl : l.length ≤ 1000) :
    lex (l ++ [10, 59]) = (toks l.length ws ++ [⟨4, [59], 0, l.length + 1⟩, ⟨0, [], 0, l.length + 2⟩], 0, 0) := by
  have ha := h.append (m := [10, 59]) (by intro x hx; simp at hx; subst hx; decide)
  have hs2 : skip false (r ++ [10, 59]) = [59] := by rw [skip_newline [59] r false he]; rfl
  have hn2 : next [59] = .ok (4, [59], 0, []) := rfl
  have hb := ha.trans (.cons hs2 hn2 (.nil _))
  have := lex_ok hb rfl (by simp; omega)
  rw [this]
  have e : (l ++ [10, 59]).length = l.length + [(10 : UInt8), 59].length := by simp
  rw [e]
  unfold toks
  rw [List.map_append]
  have := toks_shift l.length [(10 : UInt8), 59].length ws
  unfold toks at this
  rw [this]
  simp [tok1]
/-- Two texts, one behind the other on lines of their own. -/
theorem joins {s t : List UInt8} {ws wt : List Word} {r u : List UInt8} (h : Reads s ws r) (he : skip false r = []) (h2 : Reads t wt u) :
    ∃ r', Reads (s ++ 10 :: t) (shift (t.length + 1) ws ++ wt) r' ∧ skip false r' = skip false u := by
  have ha := h.append (m := 10 :: t) (by intro x hx; simp at hx; subst hx; decide)
  have hs2 : skip false (r ++ 10 :: t) = skip false t := skip_newline t r false he
  obtain ⟨r', hr, hs⟩ := h2.from hs2
  exact ⟨r', ha.trans hr, hs⟩
def move (d : Nat) (x : Tok) : Tok := ⟨x.kind, x.text, x.int, x.pos + d⟩
theorem toks_move (n d : Nat) (ws : List Word) (hb : ∀ x ∈ ws, x.2.2.2 ≤ n) : toks (d + n) ws = (toks n ws).map (move d) := by
  simp only [toks, List.map_map]
  refine List.map_congr_left fun x hx => ?_
  have := hb x hx
  simp only [Function.comp, tok1, move]
  congr 1
  omega
theorem joins_ok {s t : List UInt8} {ws wt : List Word} {r u : List UInt8} (h : Reads s ws r) (he : skip false r = []) (h2 : Reads t wt u) (hu : skip false u = []) (hs : s.length ≤ 1000) (ht : t.length ≤ 1000) :
    lex (s ++ 10 :: t) = (toks s.length ws ++ ((toks t.length wt ++ [(⟨0, [], 0, t.length⟩ : Tok)]).map (move (s.length + 1))), 0, 0) := by
  obtain ⟨r', hr, hsk⟩ := joins h he h2
  have := lex_ok hr (hsk.trans hu) (by simp; omega)
  rw [this]
  have e : (s ++ 10 :: t).length = s.length + 1 + t.length := by simp; omega
  rw [e]
  have e2 := toks_move t.length (s.length + 1) wt fun x hx => (h2.bound x hx).1
  have e3 := toks_shift s.length (t.length + 1) ws
  rw [List.map_append, ← e2, ← List.append_assoc]
  unfold toks at *
  rw [List.map_append, show s.length + 1 + t.length = s.length + (t.length + 1) by omega, e3]
  simp [move]
  omega
theorem joins_bad {s t : List UInt8} {ws wt : List Word} {r u : List UInt8} {c : UInt8} {cs : List UInt8} {e : Nat} (h : Reads s ws r) (he : skip false r = []) (h2 : Reads t wt u) (hu : skip false u = c :: cs) (hx : next (c :: cs) = .error e) (hs : s.length ≤ 1000) (ht : t.length ≤ 1000) :
    lex (s ++ 10 :: t) = ([], s.length + 1 + (t.length - (c :: cs).length), e) := by
  obtain ⟨r', hr, hsk⟩ := joins h he h2
  have := lex_bad hr (hsk.trans hu) hx (by simp; omega)
  rw [this]
  have h3 := h2.suffix.length_le
  have h4 := skip_length false u
  rw [hu] at h4
  simp only [List.length_append, List.length_cons] at *
  simp only [Prod.mk.injEq, true_and, and_true]
  omega
end Tk
end Go.Proofs.YteoleblodhgheaaDoor
