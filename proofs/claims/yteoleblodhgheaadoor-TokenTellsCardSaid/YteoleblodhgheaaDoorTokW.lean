/- The reference's word, further: a text. -/
import Derived.Test.YteoleblodhgheaaDoorTokV
namespace Go.Proofs.YteoleblodhgheaaDoor
open Go.RowKit
set_option maxHeartbeats 400000
set_option maxRecDepth 100000 in
set_option maxHeartbeats 4000000 in
theorem rone_text (s : ByteArray) (k : Nat) (hk : k < s.size) (hs : s.size ≤ 8192) (w : World) (hc : s[k] = 39) :
    Calls Tryd.prog 20 #[.string s, .int .i64 k] w (OneR s k w (Tk.next (s.data.toList.drop k))) := by
  have hn : Tk.next (s.data.toList.drop k) = match Tk.textGo (s.data.toList.drop (k + 1)) with | none => .error 30 | some (t, r) => .ok (3, t, 0, r) := by
    rw [drop_at s k hk, Tk.next, hc, if_neg (by decide), if_neg (by decide), if_pos rfl]
    rfl
  rw [← Tk.textOn_empty] at hn
  generalize hR : Tk.textOn [] (s.data.toList.drop (k + 1)) = R at *
  generalize Tk.next (s.data.toList.drop k) = RR at *
  have hE : R = none → RR = .error 30 := by rintro rfl; exact hn
  have hO : ∀ t r, R = some (t, r) → RR = .ok (3, t, 0, r) := by rintro t r rfl; exact hn
  have hc1 : Tk.letter s[k] = false := by rw [hc]; rfl
  have hc2 : Tk.digit s[k] = false := by rw [hc]; rfl
  have hc3 : ((s[k].toNat : Int) == 39) = true := by rw [hc]; rfl
  have C0 := Lib.hid (rbyte_is s[k] Tk.letter false 25 rletter_any hc1)
  have C9 := Lib.hid (rbyte_is s[k] Tk.digit false 26 rdigit_any hc2)
  have HE := Lib.hid hE
  have HO := Lib.hid hO
  have HR := Lib.hid hR
  clear hE hO hR hn hc hc1 hc2
  go_enter Tryd.func20, Tryd.ntmps20
  go_wp2_with (first | (go_at_call 25; refine (C0.out _).mono ?_; rintro e w' ⟨rfl, rfl⟩) | (go_at_call 26; refine (C9.out _).mono ?_; rintro e w' ⟨rfl, rfl⟩))
  have HB := Lib.hid ((Below.refl w.heap.size w).alloc (Nat.le_refl _) (.cells #[.int .u8 0, .string ⟨#[]⟩, .int .i64 0, .int .i64 0] 31))
  have HN := Lib.hid (alloc_now w (.cells #[.int .u8 0, .string ⟨#[]⟩, .int .i64 0, .int .i64 0] 31))
  clear C0 C9 hc3
  generalize w.alloc (.cells #[.int .u8 0, .string ⟨#[]⟩, .int .i64 0, .int .i64 0] 31) = W at *
  go_loopg [8, 11] (s.size + 1) (fun n i o wr => ∃ (q : Nat) (acc : List UInt8), q ≤ s.size ∧ s.size - q < n ∧ acc.length ≤ q ∧ i = .int .i64 q ∧ o = .string ⟨acc.toArray⟩ ∧ wr = W ∧ Hid (Tk.textOn acc (s.data.toList.drop q) = R))
  case atStart => exact ⟨k + 1, [], by omega, by omega, by simp, by push_cast; rfl, rfl, rfl, HR.out⟩
  case round =>
    clear HR
    obtain ⟨q, acc, hq, hn, hacc, rfl, rfl, rfl, HR⟩ := hrel
    by_cases hlt : q < s.size
    · have k1 := ext_one s q hlt
      by_cases h39 : (s[q].toNat : Int) = 39
      · have e1 : s[q] = 39 := byte_eq (n := 39) (by omega) h39
        have hd : s.data.toList.drop q = 39 :: s.data.toList.drop (q + 1) := by rw [drop_at s q hlt, e1]
        rw [hd] at HR
        clear hd
        by_cases hlt3 : q + 1 < s.size
        · have hd := drop_at s (q + 1) hlt3
          rw [hd] at HR
          clear hd
          have k2 := ext_one s (q + 1) hlt3
          by_cases h40 : (s[q + 1].toNat : Int) = 39
          · have e2 : s[q + 1] = 39 := byte_eq (n := 39) (by omega) h40
            rw [e2, Tk.textOn_quote] at HR
            rw [e2] at k2
            clear e1 e2 k1
            have K2 := Lib.hid k2
            clear k2
            go_wp2_with fail
            go_roundg (gk - 1)
            case measure => omega
            case rel => exact ⟨q + 2, acc ++ [39], by omega, by omega, by simp; omega, by push_cast; go_num, by rw [show q + 1 + 1 = q + 1 + 1 from rfl, K2.out, str_snoc], rfl, HR.out⟩
          · have e2 : s[q + 1] ≠ 39 := byte_ne (n := 39) (by omega) h40
            have hR := HR.out
            rw [Tk.textOn_stop _ _ _ e2, ← drop_at s (q + 1) hlt3] at hR
            obtain rfl := HO.out _ _ hR.symm
            clear e1 e2 k1 k2 hR HR HO HE
            have hne : ((s[q + 1].toNat : Int) != 39) = true := by rw [bne_iff_ne]; exact h40
            obtain ⟨c0, c1, c2, c3, f0, f1, f2, f3⟩ := cells4 HN.out
            go_wp2_with fail
            refine bodyPost_ret (v := .tuple #[.agg #[.int .u8 3, .string ⟨acc.toArray⟩, .int .i64 0, .int .i64 k], .int .i64 ((q : Int) + 1), .int .i64 0]) (by simp [results, Tryd.results20, go_sem, c0, c1, c2, c3]) rfl ⟨?_, ?_⟩
            · show _ = Ending.returned (.tuple #[_, .int .i64 ((s.size - (s.data.toList.drop (q + 1)).length : Nat) : Int), _])
              rw [List.length_drop, Array.length_toList]
              rw [show s.size - (s.data.size - (q + 1)) = q + 1 from by show s.size - (s.size - (q + 1)) = q + 1; omega]
              rfl
            · exact below_set4 HB.out (Nat.le_refl _) _ _ _ _
        · have hR := HR.out
          rw [List.drop_eq_nil_of_le (by rw [Array.length_toList]; show s.size ≤ _; omega), Tk.textOn_end] at hR
          obtain rfl := HO.out _ _ hR.symm
          clear e1 k1 hR HR HO HE
          obtain ⟨c0, c1, c2, c3, f0, f1, f2, f3⟩ := cells4 HN.out
          go_wp2_with fail
          refine bodyPost_ret (v := .tuple #[.agg #[.int .u8 3, .string ⟨acc.toArray⟩, .int .i64 0, .int .i64 k], .int .i64 ((q : Int) + 1), .int .i64 0]) (by simp [results, Tryd.results20, go_sem, c0, c1, c2, c3]) rfl ⟨?_, ?_⟩
          · show _ = Ending.returned (.tuple #[_, .int .i64 ((s.size - 0 : Nat) : Int), _])
            rw [show s.size - 0 = q + 1 from by omega]
            rfl
          · exact below_set4 HB.out (Nat.le_refl _) _ _ _ _
      · have e1 : s[q] ≠ 39 := byte_ne (n := 39) (by omega) h39
        have hR := HR.out
        rw [drop_at s q hlt, Tk.textOn_byte _ _ _ e1] at hR
        have HR2 := Lib.hid hR
        have K1 := Lib.hid k1
        clear e1 hR HR k1
        go_wp2_with fail
        go_roundg (gk - 1)
        case measure => omega
        case rel => exact ⟨q + 1, acc ++ [s[q]], by omega, by omega, by simp; omega, by push_cast; go_num, by rw [K1.out, str_snoc], rfl, HR2.out⟩
    · have hR := HR.out
      rw [List.drop_eq_nil_of_le (by rw [Array.length_toList]; show s.size ≤ _; omega), Tk.textOn_nil] at hR
      obtain rfl := HE.out hR.symm
      clear HR HO HE hR
      obtain ⟨c0, c1, c2, c3, f0, f1, f2, f3⟩ := cells4 HN.out
      go_wp2_with fail
      refine bodyPost_ret (v := .tuple #[.agg #[.int .u8 0, .string ⟨#[]⟩, .int .i64 0, .int .i64 0], .int .i64 0, .int .i64 30]) (by simp [results, Tryd.results20, go_sem, c0, c1, c2, c3]) rfl ⟨rfl, ?_⟩
      exact below_set4 HB.out (Nat.le_refl _) _ _ _ _
end Go.Proofs.YteoleblodhgheaaDoor
