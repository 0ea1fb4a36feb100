/- The reference's functions of chapter 12. -/
import Derived.Test.YteoleblodhgheaaDoorTokP
namespace Go.Proofs.YteoleblodhgheaaDoor
open Go.RowKit
set_option maxHeartbeats 400000
theorem rdigit_any (c : UInt8) (w : World) : Calls Tryd.prog 26 #[.int .u8 (c.toNat : Int)] w fun e w' => e = .returned (.bool (Tk.digit c)) ∧ w = w' := by
  go_enter Tryd.func26, Tryd.ntmps26
  go_wp2
  all_goals (go_ret; exact ⟨ret_bool (by rw [Bool.eq_iff_iff]; simp [Tk.digit]; try omega), rfl⟩)
theorem rletter_any (c : UInt8) (w : World) : Calls Tryd.prog 25 #[.int .u8 (c.toNat : Int)] w fun e w' => e = .returned (.bool (Tk.letter c)) ∧ w = w' := by
  go_enter Tryd.func25, Tryd.ntmps25
  go_wp2
  all_goals (go_ret; exact ⟨ret_bool (by rw [Bool.eq_iff_iff]; simp [Tk.letter]; try omega), rfl⟩)
theorem rwords (w : World) : Calls Tryd.prog 22 #[] w fun e w' =>
    e = .returned (.slice (some ⟨w.heap.size, 0, none⟩) 27 27) ∧ w' = w.alloc (.cells (Tk.words.map fun l => Value.string ⟨l.toArray⟩).toArray 9) := by
  go_enter Tryd.func22, Tryd.ntmps22
  go_wp2
  go_ret
  exact ⟨rfl, rfl⟩
theorem in_take_succ (l : List (List UInt8)) (x : List UInt8) (j : Nat) (hj : j < l.length) (h : x ∉ l.take j) (hx : l[j] ≠ x) : x ∉ l.take (j + 1) := by
  rw [List.take_succ_eq_append_getElem hj, List.mem_append, List.mem_singleton]
  rintro (h1 | h1)
  · exact h h1
  · exact hx h1.symm
set_option maxRecDepth 100000 in
theorem rreserved_any (s : ByteArray) (w : World) : Calls Tryd.prog 13 #[.string s] w (BoolPost w (Tk.reserved s.data.toList)) := by
  have K := Lib.hid (rwords w)
  generalize hR : Tk.reserved s.data.toList = R
  have HR := Lib.hid hR
  clear hR
  go_enter Tryd.func13, Tryd.ntmps13
  go_wp2_with (go_at_call 22; refine K.out.mono ?_; rintro e w' ⟨rfl, rfl⟩)
  have H1 := Lib.hid (alloc_now w (.cells (Tk.words.map fun l => Value.string ⟨l.toArray⟩).toArray 9))
  have HB := Lib.hid ((Below.refl w.heap.size w).alloc (Nat.le_refl _) (.cells (Tk.words.map fun l => Value.string ⟨l.toArray⟩).toArray 9))
  clear K
  generalize w.alloc (.cells (Tk.words.map fun l => Value.string ⟨l.toArray⟩).toArray 9) = W at *
  go_loopg [4] 28 (fun n i wr => ∃ j : Nat, j ≤ 27 ∧ 27 - j < n ∧ i = .int .i64 j ∧ wr = W ∧ Hid (s.data.toList ∉ Tk.words.take j))
  case atStart => exact ⟨0, by omega, by omega, rfl, rfl, show s.data.toList ∉ Tk.words.take 0 by simp⟩
  case round =>
    obtain ⟨j, hj, hn, rfl, rfl, HN⟩ := hrel
    by_cases hlt : j < 27
    · have hjl : j < Tk.words.length := hlt
      have hc : wr.cell? ⟨w.heap.size, j, none⟩ = some (.string ⟨(Tk.words[j]).toArray⟩) := word_cell H1.out j hjl
      by_cases hx : Tk.words[j] = s.data.toList
      · have hr : R = true := by
          rw [← HR.out]
          unfold Tk.reserved
          rw [decide_eq_true_eq, ← hx]
          exact List.getElem_mem hjl
        subst hr
        have he : s = ⟨(Tk.words[j]).toArray⟩ := by rw [hx]
        clear hx HR HN H1
        generalize Tk.words[j] = sg at *
        subst he
        go_wp2_with fail
        go_ret
        exact ⟨rfl, HB.out⟩
      · have hs := in_take_succ _ _ j hjl HN.out hx
        have HS := Lib.hid hs
        have hne : ¬ Tk.words[j] = s.toList := by rw [ByteArray.toList_eq]; exact hx
        have hneb : (Tk.words[j] == s.toList) = false := by rw [beq_eq_false_iff_ne]; exact hne
        clear hx hs
        have H1' := H1
        clear H1
        generalize Tk.words[j] = sg at *
        clear hjl
        go_wp2_with fail
        go_roundg (gk - 1)
        case measure => omega
        case rel => exact ⟨j + 1, by omega, by omega, by push_cast; rfl, rfl, HS.out⟩
    · obtain rfl : j = 27 := by omega
      have hr : R = false := by
        rw [← HR.out]
        unfold Tk.reserved
        rw [decide_eq_false_iff_not]
        exact HN.out
      subst hr
      go_wp2_with fail
      go_ret
      exact ⟨rfl, HB.out⟩
theorem letter_digit {c : UInt8} (h : Tk.letter c = true) : Tk.digit c = false := by
  simp only [Tk.letter, Tk.digit, decide_eq_true_eq, decide_eq_false_iff_not] at h ⊢
  omega
set_option maxRecDepth 100000 in
theorem rname_any (s : ByteArray) (w : World) : Calls Tryd.prog 15 #[.string s] w (BoolPost w (Tk.name s.data.toList)) := by
  have R := rreserved_any s w
  generalize hB : Tk.name s.data.toList = B
  have HR := Lib.hid R
  have HB := Lib.hid hB
  clear R hB
  go_enter Tryd.func15, Tryd.ntmps15
  by_cases h0 : s.size = 0
  · have hs : s = ⟨#[]⟩ := by
      obtain ⟨d⟩ := s
      have : d = #[] := Array.eq_empty_of_size_eq_zero h0
      rw [this]
    subst hs
    have hB : Tk.name [] = B := HB.out
    rw [name_empty] at hB
    subst hB
    go_wp2_with fail
    go_ret
    exact ⟨rfl, Below.refl _ _⟩
  · have hpos : 0 < s.size := by omega
    have hN := name_is s hpos
    rw [HB.out] at hN
    have HN := Lib.hid hN
    clear hN HB
    by_cases h32 : s.size ≤ 32
    · have hz : ((s.size : Int) == 0) = false := by rw [beq_eq_false_iff_ne]; omega
      have hz2 : decide ((32 : Int) < (s.size : Int)) = false := decide_eq_false (by omega)
      go_wp2_with (first | (go_at_call 13; refine HR.out.mono ?_; rintro e w' ⟨rfl, hb⟩; generalize hrr : Tk.reserved s.data.toList = rr at *; cases rr))
      · have HH := Lib.hid hrr
        clear hrr HR
        go_loopg [3] (s.size + 1) (fun n i wr => ∃ k : Nat, k ≤ s.size ∧ s.size - k < n ∧ i = .int .i64 k ∧ Hid (Below w.heap.size w wr) ∧ Hid (B = ((decide (0 < k) || !Tk.digit s[0]) && (s.data.toList.drop k).all nameB)))
        case atStart => exact ⟨0, by omega, by omega, rfl, hb, show B = _ by rw [HN.out]; simp [h32]⟩
        case round =>
          clear HN
          obtain ⟨k, hk, hn, rfl, HB, HI⟩ := hrel
          by_cases hlt : k < s.size
          · have hI := HI.out
            rw [all_at s nameB k hlt] at hI
            have HI2 := Lib.hid hI
            clear hI HI
            by_cases hk0 : k = 0
            · subst hk0
              go_wp2_with (first | (go_at_call 25; refine (rletter_any _ _).mono ?_; rintro e w1 ⟨rfl, rfl⟩; generalize hll : Tk.letter s[0] = ll at *; cases ll))
              all_goals first
                | (have hx : B = false := by
                    rw [HI2.out]
                    first
                      | (rw [name_no1 (c := s[0]) (by omega) (by omega)]; simp)
                      | (cases hd : Tk.digit s[0] with
                         | true => simp
                         | false => rw [name_no2 hll hd]; simp)
                   subst hx
                   go_ret
                   exact ⟨rfl, HB.out⟩)
                | (go_roundg (gk - 1)
                   (case measure => omega)
                   (case rel => exact ⟨1, by omega, by omega, rfl, HB.out, Lib.hid (by rw [HI2.out, name_yes1 (c := s[0]) (by omega) hll, letter_digit hll]; simp)⟩))
            · have hd0 : ((k : Int) == 0) = false := by rw [beq_eq_false_iff_ne]; omega
              have hkk : decide (0 < k) = true := decide_eq_true (by omega)
              rw [hkk] at HI2
              clear hkk
              go_wp2_with (first | (go_at_call 25; refine (rletter_any _ _).mono ?_; rintro e w1 ⟨rfl, rfl⟩; generalize hll : Tk.letter s[k] = ll at *; cases ll) | (go_at_call 26; refine (rdigit_any _ _).mono ?_; rintro e w1 ⟨rfl, rfl⟩; generalize hdd : Tk.digit s[k] = dd at *; cases dd))
              all_goals first
                | (have hx : B = false := by
                    rw [HI2.out, show nameB s[k] = false from by first | exact name_no2 hll hdd | exact name_no1 (by omega) (by omega)]
                    rfl
                   subst hx
                   go_ret
                   exact ⟨rfl, HB.out⟩)
                | (go_roundg (gk - 1)
                   (case measure => omega)
                   (case rel => exact ⟨k + 1, by omega, by omega, by push_cast; rfl, HB.out, Lib.hid (by rw [HI2.out, show nameB s[k] = true from by first | exact name_yes1 (by omega) hll | exact name_yes2 (by omega) hdd]; simp)⟩))
          · obtain rfl : k = s.size := by omega
            have hx : B = true := by
              rw [HI.out, drop_end, decide_eq_true hpos]
              rfl
            subst hx
            go_wp2_with fail
            go_ret
            exact ⟨rfl, HB.out⟩
      · have : B = false := by rw [HN.out]; simp
        subst this
        go_ret
        exact ⟨rfl, hb⟩
    · have : B = false := by rw [HN.out]; simp [h32]
      subst this
      go_wp2_with fail
      go_ret
      exact ⟨rfl, Below.refl _ _⟩
theorem lower_in {c : UInt8} (h1 : 65 ≤ (c.toNat : Int)) (h2 : (c.toNat : Int) ≤ 90) : (c.toNat : Int) + 32 = ((Tk.lower1 c).toNat : Int) := by
  unfold Tk.lower1
  rw [if_pos (by omega), UInt8.toNat_add]
  have : (32 : UInt8).toNat = 32 := rfl
  omega
theorem lower_out {c : UInt8} (h : ¬ (65 ≤ (c.toNat : Int) ∧ (c.toNat : Int) ≤ 90)) : (c.toNat : Int) = ((Tk.lower1 c).toNat : Int) := by
  unfold Tk.lower1
  rw [if_neg (by omega)]
set_option maxRecDepth 100000 in
theorem small_any (s : ByteArray) (hs : s.size ≤ 8192) (w : World) : Calls Tryd.prog 38 #[.string s] w (StrPost w (s.data.toList.map Tk.lower1)) := by
  go_enter Tryd.func38, Tryd.ntmps38
  go_wp2_with fail
  go_loopg [3, 4] (s.size + 1) (fun n o i wr => ∃ k : Nat, k ≤ s.size ∧ s.size - k < n ∧ i = .int .i64 k ∧ o = .string ⟨((s.data.toList.take k).map Tk.lower1).toArray⟩ ∧ Hid (Below w.heap.size w wr))
  case atStart => exact ⟨0, by omega, by omega, rfl, rfl, Below.refl _ _⟩
  case round =>
    obtain ⟨k, hk, hn, rfl, rfl, HB⟩ := hrel
    by_cases hlt : k < s.size
    · have HT := Lib.hid (take_map_succ Tk.lower1 s k hlt)
      generalize hl : (s.data.toList.take k).map Tk.lower1 = l at *
      have hln : l.length ≤ 8192 := by rw [← hl, List.length_map, List.length_take]; omega
      have HL := Lib.hid hl
      clear hl
      by_cases hc : 65 ≤ (s[k].toNat : Int) ∧ (s[k].toNat : Int) ≤ 90
      · have k1 := conv_one wr (Tk.lower1 s[k]) _ (lower_in hc.1 hc.2)
        obtain ⟨hc1, hc2⟩ := hc
        generalize Tk.lower1 s[k] = c at *
        go_wp2_with fail
        go_roundg (gk - 1)
        case measure => omega
        case rel => exact ⟨k + 1, by omega, by omega, by push_cast; rfl, by rw [HT.out, ← str_snoc], HB.out.alloc HB.out.size _⟩
      · have k1 := conv_one wr (Tk.lower1 s[k]) _ (lower_out hc)
        generalize Tk.lower1 s[k] = c at *
        go_wp2_with fail
        all_goals
          go_roundg (gk - 1)
          (case measure => omega)
          (case rel => exact ⟨k + 1, by omega, by omega, by push_cast; rfl, by rw [HT.out, ← str_snoc], HB.out.alloc HB.out.size _⟩)
    · obtain rfl : k = s.size := by omega
      rw [List.take_of_length_le (show s.data.toList.length ≤ s.size by rw [Array.length_toList]; exact Nat.le_refl _)]
      go_wp2_with fail
      go_ret
      exact ⟨rfl, HB.out⟩
end Go.Proofs.YteoleblodhgheaaDoor
