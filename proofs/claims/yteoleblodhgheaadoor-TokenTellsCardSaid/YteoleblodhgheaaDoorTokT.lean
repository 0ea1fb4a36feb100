/- The reference's numbers. -/
import Derived.Test.YteoleblodhgheaaDoorTokS
namespace Go.Proofs.YteoleblodhgheaaDoor
open Go.RowKit
set_option maxHeartbeats 400000
namespace Tk
theorem value_app_ge (a b : List UInt8) : value a ≤ value (a ++ b) := by
  have h : ∀ (b : List UInt8) (n : Nat), n ≤ b.foldl (fun n c => n * 10 + (c.toNat - 48)) n := by
    intro b
    induction b with
    | nil => intro n; exact Nat.le_refl _
    | cons c cs ih => intro n; exact Nat.le_trans (show n ≤ n * 10 + (c.toNat - 48) by omega) (ih _)
  unfold value
  rw [List.foldl_append]
  exact h b _
def numOk (l : List UInt8) : Prop := ¬ (1 < l.length ∧ l.head? = some 48) ∧ l.length ≤ 19 ∧ value l ≤ 9223372036854775807
end Tk
def NumR (w : World) (l : List UInt8) (ok : Bool) (e : Ending) (w' : World) : Prop :=
  e = .returned (.tuple #[.int .i64 (if ok then (Tk.value l : Int) else 0), .bool ok]) ∧ w' = w
theorem value_take_succ (s : ByteArray) (k : Nat) (h : k < s.size) : Tk.value (s.data.toList.take (k + 1)) = Tk.value (s.data.toList.take k) * 10 + (s[k].toNat - 48) := by
  rw [List.take_succ_eq_append_getElem (by rw [Array.length_toList]; exact h), Tk.value_snoc]
  rfl
set_option maxRecDepth 100000 in
set_option maxHeartbeats 4000000 in
theorem rnumber_any (s : ByteArray) (hd : ∀ c ∈ s.data.toList, Tk.digit c = true) (hs : s.size ≤ 140737488355328) (ok : Bool) (hok : ok = true ↔ Tk.numOk s.data.toList) (w : World) :
    Calls Tryd.prog 39 #[.string s] w (NumR w s.data.toList ok) := by
  have hl : s.data.toList.length = s.size := by rw [Array.length_toList]; rfl
  have HD := Lib.hid hd
  have HOK := Lib.hid hok
  have HL := Lib.hid hl
  clear hd hok hl
  go_enter Tryd.func39, Tryd.ntmps39
  by_cases h19 : 19 < s.size
  · have hz : ok = false := by
      cases hh : ok with
      | false => rfl
      | true => have := (HOK.out.1 hh).2.1; rw [HL.out] at this; omega
    subst hz
    go_wp2_with fail
    all_goals
      go_ret2
      exact ⟨rfl, rfl⟩
  · have hle : s.size ≤ 19 := by omega
    by_cases hlead : 1 < s.size ∧ s.data.toList.head? = some 48
    · obtain ⟨h1, h2⟩ := hlead
      have hz : ok = false := by
        cases hh : ok with
        | false => rfl
        | true => exact absurd ⟨by rw [HL.out]; exact h1, h2⟩ (HOK.out.1 hh).1
      subst hz
      have h0 : (s[0].toNat : Int) = 48 := by
        rw [toList_head s (by omega)] at h2
        rw [Option.some.inj h2]
        rfl
      go_wp2_with fail
      all_goals
        go_ret2
        exact ⟨rfl, rfl⟩
    · have hL : ∀ k, k ≤ s.size → Tk.value (s.data.toList.take k) ≤ Tk.value s.data.toList := by
        intro k hk
        conv => rhs; rw [← List.take_append_drop k s.data.toList]
        exact Tk.value_app_ge _ _
      have HV := Lib.hid hL
      clear hL
      have hok2 : ok = true ↔ Tk.value s.data.toList ≤ 9223372036854775807 := by
        rw [HOK.out]
        unfold Tk.numOk
        rw [HL.out]
        constructor
        · intro h; exact h.2.2
        · intro h; exact ⟨hlead, hle, h⟩
      have HOK2 := Lib.hid hok2
      clear hok2 HOK
      have hpre : s.size ≤ 1 ∨ (1 < s.size ∧ ((s.data.toList.head?) ≠ some 48)) := by
        by_cases h : s.size ≤ 1
        · exact Or.inl h
        · exact Or.inr ⟨by omega, fun e => hlead ⟨by omega, e⟩⟩
      clear hlead
      have hpre2 : s.size ≤ 1 ∨ (1 < s.size ∧ ∃ h : 0 < s.size, ((s[0].toNat : Int) == 48) = false) := by
        rcases hpre with h1 | ⟨h1, h2⟩
        · exact Or.inl h1
        · refine Or.inr ⟨h1, by omega, ?_⟩
          rw [toList_head s (by omega)] at h2
          rw [beq_eq_false_iff_ne]
          intro e
          exact h2 (congrArg some (byte_eq (n := 48) (by decide) e))
      clear hpre
      rcases hpre2 with h1 | ⟨h1, h00, h0⟩
      all_goals
        go_wp2_with fail
        go_loopg [4, 5] (s.size + 1) (fun n v i wr => ∃ (k m : Nat), k ≤ s.size ∧ s.size - k < n ∧ i = .int .i64 k ∧ v = .int .i64 m ∧ m ≤ 9223372036854775807 ∧ wr = w ∧ Hid (m = Tk.value (s.data.toList.take k)))
        (case atStart => exact ⟨0, 0, by omega, by omega, rfl, rfl, by omega, rfl, rfl⟩)
        (case round =>
          obtain ⟨k, m, hk, hn, rfl, rfl, hm, rfl, HM⟩ := hrel
          by_cases hlt : k < s.size
          · have hdg := HD.out s[k] (by rw [List.mem_iff_getElem?]; exact ⟨k, by rw [List.getElem?_eq_getElem (by rw [HL.out]; exact hlt)]; rfl⟩)
            have hdr : 48 ≤ (s[k].toNat : Int) ∧ (s[k].toNat : Int) ≤ 57 := by
              simp only [Tk.digit, decide_eq_true_eq] at hdg
              omega
            have hsucc := value_take_succ s k hlt
            rw [← HM.out] at hsucc
            clear hdg
            obtain ⟨d, hd⟩ : ∃ d : Nat, s[k].toNat = 48 + d := ⟨s[k].toNat - 48, by omega⟩
            have hd9 : d ≤ 9 := by omega
            rw [hd, Nat.add_sub_cancel_left] at hsucc
            have HSU := Lib.hid hsucc
            clear hsucc hdr
            by_cases hov : m * 10 + d ≤ 9223372036854775807
            · go_wp2_with fail
              go_roundg (gk - 1)
              (case measure => omega)
              (case rel => exact ⟨k + 1, m * 10 + d, by omega, by omega, by push_cast; rfl, congrArg (Value.int .i64) (by push_cast; omega), hov, rfl, HSU.out.symm⟩)
            · have hz : ok = false := by
                cases hh : ok with
                | false => rfl
                | true =>
                  have a := HOK2.out.1 hh
                  have b := HV.out (k + 1) (by omega)
                  rw [HSU.out] at b
                  omega
              subst hz
              go_wp2_with fail
              go_ret2
              exact ⟨rfl, rfl⟩
          · obtain rfl : k = s.size := by omega
            have hall : s.data.toList.take s.size = s.data.toList := List.take_of_length_le (by rw [HL.out]; exact Nat.le_refl _)
            have hm2 := HM.out
            rw [hall] at hm2
            have hz : ok = true := HOK2.out.2 (by omega)
            subst hz
            clear HM HOK2
            go_wp2_with fail
            go_ret2
            exact ⟨by rw [hm2]; rfl, rfl⟩)
end Go.Proofs.YteoleblodhgheaaDoor
