/- What strconv.ParseInt makes of digits. -/
import Derived.Test.YteoleblodhgheaaDoorPTok2
import Derived.Lib.ParseIntB
namespace Go.Proofs.YteoleblodhgheaaDoor
namespace Tk
theorem far_lt (p : UInt8 → Bool) (l : List UInt8) (k : Nat) : k < far p l k ↔ ((l.drop k).head?.map p) = some true := by
  unfold far
  generalize l.drop k = r
  cases r with
  | nil => simp
  | cons x xs =>
    rw [List.takeWhile_cons]
    cases hl : p x <;> simp [hl]
theorem skipAt_ge (l : List UInt8) (k : Nat) (hk : k ≤ l.length) : k ≤ skipAt l k := by
  unfold skipAt
  have := skip_length false (l.drop k)
  rw [List.length_drop] at this
  omega
def valueOn (acc : Nat) (ds : List UInt8) : Nat := ds.foldl (fun n c => n * 10 + (c.toNat - 48)) acc
theorem valueOn_le (ds : List UInt8) : ∀ acc, acc ≤ valueOn acc ds := by
  induction ds with
  | nil => intro acc; exact Nat.le_refl _
  | cons c cs ih =>
    intro acc
    have := ih (acc * 10 + (c.toNat - 48))
    show acc ≤ valueOn (acc * 10 + (c.toNat - 48)) cs
    omega
theorem parseUintM_digits (ds : List UInt8) : ∀ acc, acc ≤ 18446744073709551615 → (∀ c ∈ ds, digit c = true) →
    Lib.parseUintM 18446744073709551615 acc ds = if valueOn acc ds ≤ 18446744073709551615 then .ok (valueOn acc ds) else .range := by
  induction ds with
  | nil => intro acc h _; show _ = if acc ≤ _ then _ else _; rw [if_pos h]; rfl
  | cons c cs ih =>
    intro acc h hd
    have hc := hd c List.mem_cons_self
    simp only [digit, decide_eq_true_eq] at hc
    have hv : valueOn acc (c :: cs) = valueOn (acc * 10 + (c.toNat - 48)) cs := rfl
    have hle := valueOn_le cs (acc * 10 + (c.toNat - 48))
    rw [hv]
    unfold Lib.parseUintM
    rw [if_pos hc]
    by_cases h1 : 1844674407370955162 ≤ acc
    · rw [if_pos h1, if_neg (by omega)]
    · rw [if_neg h1]
      by_cases h2 : 18446744073709551615 < acc * 10 + (c.toNat - 48)
      · rw [if_pos h2, if_neg (by omega)]
      · rw [if_neg h2]
        exact ih _ (by omega) fun x hx => hd x (List.mem_cons_of_mem _ hx)
theorem parseIntB_digits (ds : List UInt8) (hne : ds ≠ []) (hd : ∀ c ∈ ds, digit c = true) :
    Lib.parseIntB 64 ds = if value ds > 9223372036854775807 then .range else .ok (value ds) := by
  match ds, hne, hd with
  | c :: cs, _, hd =>
    have hc := hd c List.mem_cons_self
    simp only [digit, decide_eq_true_eq] at hc
    have hu := parseUintM_digits (c :: cs) 0 (by omega) hd
    have hv : valueOn 0 (c :: cs) = value (c :: cs) := rfl
    rw [hv] at hu
    unfold Lib.parseIntB
    have h43 : ¬ (c.toNat = 43 ∨ c.toNat = 45) := by omega
    have h45 : ¬ c.toNat = 45 := by omega
    simp only [if_neg h43]
    have hB : Lib.parseUintB 64 (c :: cs) = if value (c :: cs) ≤ 18446744073709551615 then .ok (value (c :: cs)) else .range := by
      unfold Lib.parseUintB
      rw [if_neg (by simp)]
      exact hu
    rw [hB]
    generalize value (c :: cs) = v
    have e63 : (2 : Nat) ^ (64 - 1) = 9223372036854775808 := by decide
    by_cases h1 : v ≤ 18446744073709551615
    · rw [if_pos h1]
      simp only [e63, h45, not_false_eq_true, true_and, false_and, if_false]
      by_cases h2 : 9223372036854775808 ≤ v
      · rw [if_pos h2, if_pos (by omega)]
      · rw [if_neg h2, if_neg (by omega)]
    · rw [if_neg h1, if_pos (by omega)]
end Tk
end Go.Proofs.YteoleblodhgheaaDoor
