/- Plain functions, further: signs, reserved words, names. -/
import Derived.Test.YteoleblodhgheaaDoorPTok
namespace Go.Proofs.YteoleblodhgheaaDoor
namespace Tk
def signs : List (List UInt8) := [[60, 62], [60, 61], [62, 61], [40], [41], [44], [42], [43], [45], [47], [37], [61], [60], [62], [59]]
/-- The first sign from a place of the list on that a text begins with. -/
def signOf (l : List UInt8) (j : Nat) : Option (List UInt8) := (signs.drop j).find? fun s => s.isPrefixOf l
theorem signOf_yes (l : List UInt8) (j : Nat) (h : j < signs.length) (hp : signs[j].isPrefixOf l = true) : signOf l j = some signs[j] := by
  unfold signOf
  rw [List.drop_eq_getElem_cons h, List.find?_cons, hp]
theorem signOf_no (l : List UInt8) (j : Nat) (h : j < signs.length) (hp : signs[j].isPrefixOf l = false) : signOf l j = signOf l (j + 1) := by
  unfold signOf
  rw [List.drop_eq_getElem_cons h, List.find?_cons, hp]
theorem signOf_end (l : List UInt8) : signOf l 15 = none := rfl

/-- What digits are worth. -/
def value (ds : List UInt8) : Nat := ds.foldl (fun n c => n * 10 + (c.toNat - 48)) 0
/-- The word that a text begins with: an error; or its kind, text, number, and what stands behind it. -/
def next (l : List UInt8) : Except Nat (Nat × List UInt8 × Int × List UInt8) :=
  match l with
  | [] => .error 30
  | c :: cs =>
    if letter c then
      if 32 < ((c :: cs).takeWhile alnum).length then .error 2 else .ok (1, ((c :: cs).takeWhile alnum).map lower1, 0, (c :: cs).dropWhile alnum)
    else if digit c then
      if value ((c :: cs).takeWhile digit) > 9223372036854775807 ∨ (c = 48 ∧ (c :: cs).takeWhile digit ≠ [48]) ∨ (((c :: cs).dropWhile digit).head?.map letter) = some true then .error 30
      else .ok (2, [], value ((c :: cs).takeWhile digit), (c :: cs).dropWhile digit)
    else if c = 39 then
      match textGo cs with
      | none => .error 30
      | some (t, r) => .ok (3, t, 0, r)
    else
      match signOf (c :: cs) 0 with
      | none => .error 30
      | some g => .ok (4, g, 0, (c :: cs).drop g.length)
def kindR : Except Nat (Nat × List UInt8 × Int × List UInt8) → Int | .ok (k, _) => k | .error _ => 0
def textR : Except Nat (Nat × List UInt8 × Int × List UInt8) → List UInt8 | .ok (_, t, _) => t | .error _ => []
def intR : Except Nat (Nat × List UInt8 × Int × List UInt8) → Int | .ok (_, _, i, _) => i | .error _ => 0
def posR (k : Nat) : Except Nat (Nat × List UInt8 × Int × List UInt8) → Nat | .ok _ => k | .error _ => 0
def errR : Except Nat (Nat × List UInt8 × Int × List UInt8) → Int | .ok _ => 0 | .error e => e
/-- Where the lexer stands behind it (n: the text's length). -/
def endR (n k : Nat) : Except Nat (Nat × List UInt8 × Int × List UInt8) → Nat | .ok (_, _, _, r) => n - r.length | .error _ => k

def words : List (List UInt8) := [[97, 110, 100], [97, 115], [98, 121], [99, 97, 108, 108], [99, 114, 101, 97, 116, 101], [100, 101, 108, 101, 116, 101], [100, 101, 115, 99], [100, 114, 111, 112], [102, 97, 108, 115, 101], [102, 114, 111, 109], [103, 114, 111, 117, 112], [104, 97, 118, 105, 110, 103], [105, 110, 115, 101, 114, 116], [105, 110, 116, 111], [105, 115], [108, 105, 109, 105, 116], [110, 111, 116], [110, 117, 108, 108], [111, 110, 108, 121], [111, 114], [111, 114, 100, 101, 114], [115, 101, 108, 101, 99, 116], [115, 101, 116], [116, 114, 117, 101], [117, 112, 100, 97, 116, 101], [118, 97, 108, 117, 101, 115], [119, 104, 101, 114, 101]]
def reserved (s : List UInt8) : Bool := decide (s ∈ words)
theorem words_all : ∀ j : Fin words.length, words[j] ∉ words.take j := by decide +kernel
theorem words_new (j : Nat) (h : j < words.length) : words[j] ∉ words.take j := words_all ⟨j, h⟩
/-- May a word be a name? -/
def name (s : List UInt8) : Bool :=
  match s with
  | [] => false
  | c :: cs => decide ((c :: cs).length ≤ 32) && !reserved (c :: cs) && !digit c && (c :: cs).all fun x => !(decide (65 ≤ x.toNat ∧ x.toNat ≤ 90)) && alnum x
end Tk
end Go.Proofs.YteoleblodhgheaaDoor
