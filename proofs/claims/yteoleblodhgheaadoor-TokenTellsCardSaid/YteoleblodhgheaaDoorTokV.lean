/- The reference's word, further: a number. -/
import Derived.Test.YteoleblodhgheaaDoorTokU
namespace Go.Proofs.YteoleblodhgheaaDoor
open Go.RowKit
set_option maxHeartbeats 400000
namespace Tk
theorem valueOn_ge (ds : List UInt8) : ∀ acc, acc * 10 ^ ds.length ≤ valueOn acc ds := by
  induction ds with
  | nil => intro acc; simp [valueOn]
  | cons c cs ih =>
    intro acc
    have h := ih (acc * 10 + (c.toNat - 48))
    have e : valueOn acc (c :: cs) = valueOn (acc * 10 + (c.toNat - 48)) cs := rfl
    rw [e]
    refine Nat.le_trans ?_ h
    rw [List.length_cons, Nat.pow_succ, Nat.mul_comm (10 ^ cs.length) 10, ← Nat.mul_assoc]
    exact Nat.mul_le_mul_right _ (by omega)
theorem numOk_iff (c : UInt8) (cs : List UInt8) (hc : digit c = true) : numOk (c :: cs) ↔ ¬ (value (c :: cs) > 9223372036854775807 ∨ (c = 48 ∧ c :: cs ≠ [48])) := by
  have hv : valueOn 0 (c :: cs) = value (c :: cs) := rfl
  have e : valueOn 0 (c :: cs) = valueOn (c.toNat - 48) cs := by show valueOn (0 * 10 + (c.toNat - 48)) cs = _; rw [Nat.zero_mul, Nat.zero_add]
  have hge := valueOn_ge cs (c.toNat - 48)
  rw [← e, hv] at hge
  simp only [digit, decide_eq_true_eq] at hc
  unfold numOk
  simp only [List.length_cons, List.head?_cons, Option.some.injEq]
  constructor
  · rintro ⟨h1, h2, h3⟩ (h | ⟨rfl, h5⟩)
    · omega
    · apply h1
      refine ⟨?_, rfl⟩
      cases cs with
      | nil => exact absurd rfl h5
      | cons x xs => simp
  · intro h
    have h1 : value (c :: cs) ≤ 9223372036854775807 := by
      apply Nat.le_of_not_gt
      intro hh
      exact h (Or.inl hh)
    have h2 : ¬ (c = 48 ∧ c :: cs ≠ [48]) := fun hh => h (Or.inr hh)
    refine ⟨?_, ?_, h1⟩
    · rintro ⟨h3, rfl⟩
      apply h2
      refine ⟨rfl, ?_⟩
      cases cs with
      | nil => simp at h3
      | cons x xs => simp
    · by_cases h48 : c = 48
      · have : cs = [] := by
          apply Decidable.byContradiction
          intro hne
          apply h2
          refine ⟨h48, ?_⟩
          intro hh
          exact hne (List.cons.inj hh).2
        subst this
        simp
      · have hpos : 1 ≤ c.toNat - 48 := by
          have : c.toNat ≠ 48 := fun hh => h48 (UInt8.toNat_inj.1 hh)
          omega
        apply Nat.le_of_not_gt
        intro hlen
        have hp : 10 ^ 19 ≤ 10 ^ cs.length := Nat.pow_le_pow_right (by decide) (by omega)
        have : 10 ^ 19 ≤ (c.toNat - 48) * 10 ^ cs.length := Nat.le_trans hp (by
          have := Nat.mul_le_mul_right (10 ^ cs.length) hpos
          rwa [Nat.one_mul] at this)
        have h10 : (10 : Nat) ^ 19 = 10000000000000000000 := by decide
        omega
end Tk
set_option maxRecDepth 100000 in
set_option maxHeartbeats 4000000 in
theorem rone_number (s : ByteArray) (k : Nat) (hk : k < s.size) (hs : s.size ≤ 8192) (w : World) (hc1 : Tk.letter s[k] = false) (hc : Tk.digit s[k] = true) :
    Calls Tryd.prog 20 #[.string s, .int .i64 k] w (OneR s k w (Tk.next (s.data.toList.drop k))) := by
  have hge := Tk.far_ge Tk.digit s.data.toList k
  have hd := drop_at s k hk
  have hn : Tk.next (s.data.toList.drop k) = if Tk.value ((s.data.toList.drop k).takeWhile Tk.digit) > 9223372036854775807 ∨ (s[k] = 48 ∧ (s.data.toList.drop k).takeWhile Tk.digit ≠ [48]) ∨ (((s.data.toList.drop k).dropWhile Tk.digit).head?.map Tk.letter) = some true then .error 30
      else .ok (2, [], Tk.value ((s.data.toList.drop k).takeWhile Tk.digit), (s.data.toList.drop k).dropWhile Tk.digit) := by
    rw [hd, Tk.next, if_neg (by simp [hc1]), if_pos hc]
  have htk : (s.data.toList.drop k).takeWhile Tk.digit = s[k] :: (s.data.toList.drop (k + 1)).takeWhile Tk.digit := by rw [hd, List.takeWhile_cons, if_pos hc]
  have hnum := Tk.numOk_iff s[k] ((s.data.toList.drop (k + 1)).takeWhile Tk.digit) hc
  rw [← htk] at hnum
  have hall := Tk.takeWhile_all Tk.digit (s.data.toList.drop k)
  have hfr := far_rest Tk.digit s k (by omega)
  have hfs := far_sz Tk.digit s k (by omega)
  have hx := ext_far Tk.digit s k
  have hhd : ((s.data.toList.drop k).dropWhile Tk.digit).head?.map Tk.letter = some true ↔ ∃ h : Tk.far Tk.digit s.data.toList k < s.size, Tk.letter (s[Tk.far Tk.digit s.data.toList k]'h) = true := by
    rw [← Tk.drop_far]
    by_cases hlt : Tk.far Tk.digit s.data.toList k < s.size
    · rw [drop_at s _ hlt]
      simp [hlt]
    · rw [List.drop_eq_nil_of_le (by rw [Array.length_toList]; show s.size ≤ _; omega)]
      simp [hlt]
  rw [hn]
  have hll : s.data.toList.length = s.size := by rw [Array.length_toList]; rfl
  have C0 := rbyte_is s[k] Tk.letter false 25 rletter_any hc1
  have C9 := rbyte_is s[k] Tk.digit true 26 rdigit_any hc
  clear hn hd htk
  generalize hK : Tk.far Tk.digit s.data.toList k = K at *
  generalize (s.data.toList.drop k).dropWhile Tk.digit = r at *
  generalize (s.data.toList.drop k).takeWhile Tk.digit = t at *
  obtain ⟨ok, hok⟩ : ∃ ok : Bool, ok = true ↔ Tk.numOk t := by
    by_cases h : Tk.numOk t
    · exact ⟨true, by simp [h]⟩
    · exact ⟨false, by simp [h]⟩
  have CN : ∀ wq : World, Calls Tryd.prog 39 #[.string (s.extract k K)] wq (NumR wq t ok) := fun wq => by
    have := rnumber_any (s.extract k K) (by rw [hx]; exact hall) (by rw [ByteArray.size_extract]; omega) ok (by rw [hx]; exact hok) wq
    rw [hx] at this
    exact this
  generalize hRR : (if Tk.value t > 9223372036854775807 ∨ (s[k] = 48 ∧ t ≠ [48]) ∨ r.head?.map Tk.letter = some true then Except.error 30 else Except.ok (2, [], (Tk.value t : Int), r) : Except Nat (Nat × List UInt8 × Int × List UInt8)) = RR
  have hbad : ok = false ∨ (r.head?.map Tk.letter = some true) → RR = .error 30 := by
    rintro (h | h)
    · rw [← hRR, if_pos]
      have h2 : ¬ Tk.numOk t := fun hh => by rw [hok.2 hh] at h; cases h
      rw [hnum] at h2
      rcases Classical.not_not.1 h2 with h3 | h3
      · exact Or.inl h3
      · exact Or.inr (Or.inl h3)
    · rw [← hRR, if_pos (Or.inr (Or.inr h))]
  have hgood : ok = true → ¬ (r.head?.map Tk.letter = some true) → RR = .ok (2, [], (Tk.value t : Int), r) ∧ Tk.value t ≤ 9223372036854775807 := by
    intro h1 h2
    have h3 := hnum.1 (hok.1 h1)
    refine ⟨?_, ?_⟩
    · rw [← hRR, if_neg]
      rintro (h | h | h)
      · exact h3 (Or.inl h)
      · exact h3 (Or.inr h)
      · exact h2 h
    · apply Nat.le_of_not_gt
      intro hh
      exact h3 (Or.inl hh)
  have HBAD := Lib.hid hbad
  have HGOOD := Lib.hid hgood
  have HHD := Lib.hid hhd
  have HR := Lib.hid hfr
  have HK := Lib.hid hK
  have HLL := Lib.hid hll
  have HC := Lib.hid C0
  have HC9 := Lib.hid C9
  have HCN := Lib.hid CN
  clear hx hfr hK hc hll C0 C9 CN hRR hbad hgood hnum hok hall hhd hc1
  go_enter Tryd.func20, Tryd.ntmps20
  go_wp2_with (first | (go_at_call 25; refine (HC.out _).mono ?_; rintro e w' ⟨rfl, rfl⟩) | (go_at_call 26; refine (HC9.out _).mono ?_; rintro e w' ⟨rfl, rfl⟩))
  have HB := Lib.hid ((Below.refl w.heap.size w).alloc (Nat.le_refl _) (.cells #[.int .u8 0, .string ⟨#[]⟩, .int .i64 0, .int .i64 0] 31))
  have HN := Lib.hid (alloc_now w (.cells #[.int .u8 0, .string ⟨#[]⟩, .int .i64 0, .int .i64 0] 31))
  clear HC HC9
  generalize w.alloc (.cells #[.int .u8 0, .string ⟨#[]⟩, .int .i64 0, .int .i64 0] 31) = W at *
  go_loopg [8] (s.size + 1) (fun n i wr => ∃ j : Nat, k ≤ j ∧ j ≤ s.size ∧ s.size - j < n ∧ i = .int .i64 j ∧ wr = W ∧ Hid (Tk.far Tk.digit s.data.toList j = K))
  case atStart => exact ⟨k, by omega, by omega, by omega, rfl, rfl, HK.out⟩
  case round =>
    obtain ⟨j, hkj, hj, hn, rfl, rfl, HJ⟩ := hrel
    by_cases hlt : j < s.size
    · obtain ⟨dB, hdB⟩ : ∃ dB, Tk.digit s[j] = dB := ⟨_, rfl⟩
      have C2 := Lib.hid (rbyte_is s[j] Tk.digit dB 26 rdigit_any hdB)
      have hy : dB = true → Tk.far Tk.digit s.data.toList (j + 1) = K := fun h => (Tk.far_yes _ _ j (by rw [HLL.out]; exact hlt) (hdB.trans h)).trans HJ.out
      have hno : dB = false → j = K := fun h => (Tk.far_no _ _ j (by rw [HLL.out]; exact hlt) (hdB.trans h)).symm.trans HJ.out
      have HY := Lib.hid hy
      have HNO := Lib.hid hno
      clear hdB hy hno HJ
      cases dB
      · obtain rfl := HNO.out rfl
        clear HY HNO
        obtain ⟨c0, c1, c2, c3, f0, f1, f2, f3⟩ := cells4 HN.out
        cases ok
        · obtain rfl := HBAD.out (Or.inl rfl)
          go_wp2_with (first | (go_at_call 26; refine (C2.out _).mono ?_; rintro e w' ⟨rfl, rfl⟩) | (go_at_call 39; refine (HCN.out _).mono ?_; rintro e w' ⟨rfl, rfl⟩))
          refine bodyPost_ret (v := .tuple #[.agg #[.int .u8 0, .string ⟨#[]⟩, .int .i64 0, .int .i64 0], .int .i64 0, .int .i64 30]) (by simp [results, Tryd.results20, go_sem, c0, c1, c2, c3]) rfl ⟨rfl, ?_⟩
          exact below_set4 HB.out (Nat.le_refl _) _ _ _ _
        · obtain ⟨lB, hlB⟩ : ∃ lB, Tk.letter s[j] = lB := ⟨_, rfl⟩
          have C1 := Lib.hid (rbyte_is s[j] Tk.letter lB 25 rletter_any hlB)
          have HLB := Lib.hid hlB
          clear hlB
          have HCN2 := Lib.hid (show ∀ wq : World, Calls Tryd.prog 39 #[.string (s.extract k j)] wq (fun e w' => e = .returned (.tuple #[.int .i64 (Tk.value t : Int), .bool true]) ∧ w' = wq) from HCN.out)
          cases lB
          · obtain ⟨rfl, hv⟩ := HGOOD.out rfl (by rw [HHD.out]; rintro ⟨_, h⟩; rw [HLB.out] at h; cases h)
            clear HGOOD HBAD
            go_wp2_with (first | (go_at_call 26; refine (C2.out _).mono ?_; rintro e w' ⟨rfl, rfl⟩) | (go_at_call 39; refine (HCN2.out _).mono ?_; rintro e w' ⟨rfl, rfl⟩) | (go_at_call 25; refine (C1.out _).mono ?_; rintro e w' ⟨rfl, rfl⟩))
            refine bodyPost_ret (v := .tuple #[.agg #[.int .u8 2, .string ⟨#[]⟩, .int .i64 (Tk.value t : Int), .int .i64 k], .int .i64 j, .int .i64 0]) (by simp [results, Tryd.results20, go_sem, c0, c1, c2, c3]) rfl ⟨?_, ?_⟩
            · show _ = Ending.returned (.tuple #[_, .int .i64 ((s.size - r.length : Nat) : Int), _])
              rw [HR.out]
              rfl
            · exact below_set4 HB.out (Nat.le_refl _) _ _ _ _
          · obtain rfl := HBAD.out (Or.inr (by rw [HHD.out]; exact ⟨hlt, HLB.out⟩))
            go_wp2_with (first | (go_at_call 26; refine (C2.out _).mono ?_; rintro e w' ⟨rfl, rfl⟩) | (go_at_call 39; refine (HCN2.out _).mono ?_; rintro e w' ⟨rfl, rfl⟩) | (go_at_call 25; refine (C1.out _).mono ?_; rintro e w' ⟨rfl, rfl⟩))
            refine bodyPost_ret (v := .tuple #[.agg #[.int .u8 0, .string ⟨#[]⟩, .int .i64 0, .int .i64 0], .int .i64 0, .int .i64 30]) (by simp [results, Tryd.results20, go_sem, c0, c1, c2, c3]) rfl ⟨rfl, ?_⟩
            exact below_set4 HB.out (Nat.le_refl _) _ _ _ _
      · have HJ2 := Lib.hid (HY.out rfl)
        clear HY HNO
        go_wp2_with (go_at_call 26; refine (C2.out _).mono ?_; rintro e w' ⟨rfl, rfl⟩)
        go_roundg (gk - 1)
        case measure => omega
        case rel => exact ⟨j + 1, by omega, by omega, by omega, by push_cast; rfl, rfl, HJ2.out⟩
    · obtain rfl : j = s.size := by omega
      have hK2 : s.size = K := (Tk.far_end _ _ _ (by rw [HLL.out]; exact Nat.le_refl _)).symm.trans HJ.out
      subst hK2
      obtain ⟨c0, c1, c2, c3, f0, f1, f2, f3⟩ := cells4 HN.out
      cases ok
      · obtain rfl := HBAD.out (Or.inl rfl)
        go_wp2_with (go_at_call 39; refine (HCN.out _).mono ?_; rintro e w' ⟨rfl, rfl⟩)
        refine bodyPost_ret (v := .tuple #[.agg #[.int .u8 0, .string ⟨#[]⟩, .int .i64 0, .int .i64 0], .int .i64 0, .int .i64 30]) (by simp [results, Tryd.results20, go_sem, c0, c1, c2, c3]) rfl ⟨rfl, ?_⟩
        exact below_set4 HB.out (Nat.le_refl _) _ _ _ _
      · have HCN2 := Lib.hid (show ∀ wq : World, Calls Tryd.prog 39 #[.string (s.extract k s.size)] wq (fun e w' => e = .returned (.tuple #[.int .i64 (Tk.value t : Int), .bool true]) ∧ w' = wq) from HCN.out)
        obtain ⟨rfl, hv⟩ := HGOOD.out rfl (by rw [HHD.out]; rintro ⟨h, _⟩; omega)
        clear HGOOD HBAD
        go_wp2_with (go_at_call 39; refine (HCN2.out _).mono ?_; rintro e w' ⟨rfl, rfl⟩)
        refine bodyPost_ret (v := .tuple #[.agg #[.int .u8 2, .string ⟨#[]⟩, .int .i64 (Tk.value t : Int), .int .i64 k], .int .i64 s.size, .int .i64 0]) (by simp [results, Tryd.results20, go_sem, c0, c1, c2, c3]) rfl ⟨?_, ?_⟩
        · show _ = Ending.returned (.tuple #[_, .int .i64 ((s.size - r.length : Nat) : Int), _])
          rw [HR.out]
          rfl
        · exact below_set4 HB.out (Nat.le_refl _) _ _ _ _
end Go.Proofs.YteoleblodhgheaaDoor
