import Derived.Test.YteoleblodhgheaaDoorTokJ
namespace Go.Proofs.YteoleblodhgheaaDoor
open Go.RowKit
set_option maxHeartbeats 400000
theorem tokCells_length (ts : List Tk.Tok) : (tokCells ts).length = ts.length * 4 := by
  induction ts with
  | nil => rfl
  | cons t ts ih => show (tokCells1 t ++ tokCells ts).length = _; rw [List.length_append, ih]; simp [tokCells1]; omega
theorem tokCells_get : ∀ (ts : List Tk.Tok) (i : Nat) (hi : i < ts.length) (f : Nat), f < 4 → (tokCells ts)[i * 4 + f]? = (tokCells1 ts[i])[f]? := by
  intro ts
  induction ts with
  | nil => intro i hi; simp at hi
  | cons t ts ih =>
    intro i hi f hf
    show (tokCells1 t ++ tokCells ts)[i * 4 + f]? = _
    have hl : (tokCells1 t).length = 4 := rfl
    cases i with
    | zero => rw [List.getElem?_append_left (by omega)]; simp
    | succ i =>
      rw [List.getElem?_append_right (by omega), hl, show (i + 1) * 4 + f - 4 = i * 4 + f by omega, ih i (by simpa using hi) f hf]
      simp
/-- A row of words lies in a world, at a block from a base on. -/
def RowAt (base : Nat) (w : World) (g : Nat) (cap : Nat) (ts : List Tk.Tok) : Prop :=
  base ≤ g ∧ g < w.heap.size ∧ ts.length ≤ cap ∧ ts.length ≤ maxLen ∧ (∀ i (h : i < ts.length) f, f < 4 → w.cell? ⟨g, i * 4 + f, none⟩ = (tokCells1 ts[i])[f]?)
theorem row_of {w : World} {base : Nat} {v : Value} {ts : List Tk.Tok} (h : w.ownsRow base 31 4 v ts.length (tokCells ts)) :
    (v = .slice none 0 0 ∧ ts = []) ∨ ∃ g cap, v = .slice (some ⟨g, 0, none⟩) ts.length cap ∧ RowAt base w g cap ts := by
  rcases h.2 with ⟨rfl, h0⟩ | ⟨g, cap, cur, rfl, hg, hh, hn, hc, hs, ht⟩
  · exact Or.inl ⟨rfl, List.eq_nil_of_length_eq_zero h0⟩
  · refine Or.inr ⟨g, cap, rfl, hg, (Array.getElem?_eq_some_iff.1 hh).1, hn, Nat.le_trans hn hc, fun i hi f hf => ?_⟩
    rw [blk_cell hh, ← tokCells_get ts i hi f hf, ← ht, List.getElem?_take_of_lt (by omega)]
    simp
theorem RowAt.below {base : Nat} {w w' : World} {g cap : Nat} {ts : List Tk.Tok} (h : RowAt base w g cap ts) (hb : Below w.heap.size w w') : RowAt base w' g cap ts :=
  ⟨h.1, Nat.lt_of_lt_of_le h.2.1 hb.size, h.2.2.1, h.2.2.2.1, fun i hi f hf => (hb.cell h.2.1).trans (h.2.2.2.2 i hi f hf)⟩
/-- What Lex hands back: nothing, or a row of words that lies in the new world. -/
def LexPost2 (w : World) (R : List Tk.Tok × Nat × Nat) (e : Ending) (w' : World) : Prop :=
  ∃ v, e = .returned (.tuple #[v, .int .i64 R.2.1, .int .i64 R.2.2]) ∧ Below w.heap.size w w' ∧ ((v = .slice none 0 0 ∧ R.1 = []) ∨ ∃ g cap, v = .slice (some ⟨g, 0, none⟩) R.1.length cap ∧ RowAt w.heap.size w' g cap R.1)
theorem lex2 (s : ByteArray) (w : World) (hE : Env w) : Calls Tryd.prog 9 #[.string s] w (LexPost2 w (Tk.lex s.data.toList)) :=
  (lex_any s w hE).mono fun _ _ ⟨v, he, ho, hb⟩ => ⟨v, he, hb, row_of ho⟩
end Go.Proofs.YteoleblodhgheaaDoor
