/- The reference's word. -/
import Derived.Test.YteoleblodhgheaaDoorTokT
namespace Go.Proofs.YteoleblodhgheaaDoor
open Go.RowKit
set_option maxHeartbeats 400000
/-- Where the word ends (n: the text's length). -/
def toR (n : Nat) : Except Nat (Nat × List UInt8 × Int × List UInt8) → Int
  | .ok (_, _, _, r) => ((n - r.length : Nat) : Int)
  | .error _ => 0
/-- What 'one' hands back. -/
def OneR (s : ByteArray) (k : Nat) (w : World) (r : Except Nat (Nat × List UInt8 × Int × List UInt8)) (e : Ending) (w' : World) : Prop :=
  e = .returned (.tuple #[.agg #[.int .u8 (Tk.kindR r), .string ⟨(Tk.textR r).toArray⟩, .int .i64 (Tk.intR r), .int .i64 (Tk.posR k r)], .int .i64 (toR s.size r), .int .i64 (Tk.errR r)]) ∧ Below w.heap.size w w'
theorem rbyte_is (c : UInt8) (p : UInt8 → Bool) (x : Bool) (f : FuncId) (h : ∀ (c : UInt8) (w : World), Calls Tryd.prog f #[.int .u8 (c.toNat : Int)] w fun e w' => e = .returned (.bool (p c)) ∧ w = w') (hx : p c = x) (w : World) :
    Calls Tryd.prog f #[.int .u8 (c.toNat : Int)] w fun e w' => e = .returned (.bool x) ∧ w = w' :=
  (h c w).mono fun e w' ⟨he, hw⟩ => ⟨by rw [he, hx], hw⟩
theorem below_set4 {B r : Nat} {w w' : World} (h : Below B w w') (hr : B ≤ r) (v0 v1 v2 v3 : Value) : Below B w ((((w'.setCell ⟨r, 0, none⟩ v0).setCell ⟨r, 1, none⟩ v1).setCell ⟨r, 2, none⟩ v2).setCell ⟨r, 3, none⟩ v3) :=
  (((h.setCell hr _).setCell hr _).setCell hr _).setCell hr _
theorem ext_far (p : UInt8 → Bool) (s : ByteArray) (k : Nat) : (s.extract k (Tk.far p s.data.toList k)).data.toList = (s.data.toList.drop k).takeWhile p := by
  rw [Lib.extract_data, Tk.take_far]
theorem far_sz (p : UInt8 → Bool) (s : ByteArray) (k : Nat) (hk : k ≤ s.size) : Tk.far p s.data.toList k ≤ s.size := by
  have hle := Tk.far_le p s.data.toList k (by rw [Array.length_toList]; exact hk)
  rw [Array.length_toList] at hle
  exact hle
theorem far_rest (p : UInt8 → Bool) (s : ByteArray) (k : Nat) (hk : k ≤ s.size) : s.size - ((s.data.toList.drop k).dropWhile p).length = Tk.far p s.data.toList k := by
  have := far_sz p s k hk
  rw [← Tk.drop_far, List.length_drop, Array.length_toList]
  show s.size - (s.size - _) = _
  omega
set_option maxRecDepth 100000 in
set_option maxHeartbeats 4000000 in
theorem rone_word (s : ByteArray) (k : Nat) (hk : k < s.size) (hs : s.size ≤ 8192) (w : World) (hc : Tk.letter s[k] = true) :
    Calls Tryd.prog 20 #[.string s, .int .i64 k] w (OneR s k w (Tk.next (s.data.toList.drop k))) := by
  have hl := Tk.take_far Tk.alnum s.data.toList k
  have hge := Tk.far_ge Tk.alnum s.data.toList k
  have hlen : ((s.data.toList.drop k).takeWhile Tk.alnum).length = Tk.far Tk.alnum s.data.toList k - k := by unfold Tk.far; omega
  have hd := drop_at s k hk
  have hn : Tk.next (s.data.toList.drop k) = if 32 < ((s.data.toList.drop k).takeWhile Tk.alnum).length then .error 2 else .ok (1, ((s.data.toList.drop k).takeWhile Tk.alnum).map Tk.lower1, 0, (s.data.toList.drop k).dropWhile Tk.alnum) := by
    rw [hd, Tk.next, if_pos hc]
  have hfr := far_rest Tk.alnum s k (by omega)
  have hfs := far_sz Tk.alnum s k (by omega)
  have hx := ext_far Tk.alnum s k
  rw [hn, hlen]
  clear hn hd hl hlen
  have hll : s.data.toList.length = s.size := by rw [Array.length_toList]; rfl
  have C0 := rbyte_is s[k] Tk.letter true 25 rletter_any hc
  generalize hK : Tk.far Tk.alnum s.data.toList k = K at *
  generalize (s.data.toList.drop k).dropWhile Tk.alnum = r at *
  generalize (s.data.toList.drop k).takeWhile Tk.alnum = t at *
  generalize hRR : (if 32 < K - k then Except.error 2 else Except.ok (1, t.map Tk.lower1, (0 : Int), r) : Except Nat (Nat × List UInt8 × Int × List UInt8)) = RR
  have HRR := Lib.hid hRR
  have HX := Lib.hid hx
  have HR := Lib.hid hfr
  have HK := Lib.hid hK
  have HLL := Lib.hid hll
  have HC := Lib.hid C0
  clear hx hfr hK hc hll C0 hRR
  go_enter Tryd.func20, Tryd.ntmps20
  go_wp2_with ((go_at_call 25; refine (HC.out _).mono ?_; rintro e w' ⟨rfl, rfl⟩))
  have HB := Lib.hid ((Below.refl w.heap.size w).alloc (Nat.le_refl _) (.cells #[.int .u8 0, .string ⟨#[]⟩, .int .i64 0, .int .i64 0] 31))
  have HN := Lib.hid (alloc_now w (.cells #[.int .u8 0, .string ⟨#[]⟩, .int .i64 0, .int .i64 0] 31))
  have hz : (w.alloc (.cells #[.int .u8 0, .string ⟨#[]⟩, .int .i64 0, .int .i64 0] 31)).heap.size = w.heap.size + 1 := by simp
  have HZ := Lib.hid hz
  clear hz HC
  generalize w.alloc (.cells #[.int .u8 0, .string ⟨#[]⟩, .int .i64 0, .int .i64 0] 31) = W at *
  go_loopg [8] (s.size + 1) (fun n i wr => ∃ j : Nat, k ≤ j ∧ j ≤ s.size ∧ s.size - j < n ∧ i = .int .i64 j ∧ wr = W ∧ Hid (Tk.far Tk.alnum s.data.toList j = K))
  case atStart => exact ⟨k, by omega, by omega, by omega, rfl, rfl, HK.out⟩
  case round =>
    obtain ⟨j, hkj, hj, hn, rfl, rfl, HJ⟩ := hrel
    by_cases hlt : j < s.size
    · obtain ⟨lB, hlB⟩ : ∃ lB, Tk.letter s[j] = lB := ⟨_, rfl⟩
      obtain ⟨dB, hdB⟩ : ∃ dB, Tk.digit s[j] = dB := ⟨_, rfl⟩
      have C1 := Lib.hid (rbyte_is s[j] Tk.letter lB 25 rletter_any hlB)
      have C2 := Lib.hid (rbyte_is s[j] Tk.digit dB 26 rdigit_any hdB)
      have hal : Tk.alnum s[j] = (lB || dB) := by unfold Tk.alnum; rw [hlB, hdB]
      have hy : (lB || dB) = true → Tk.far Tk.alnum s.data.toList (j + 1) = K := fun h => (Tk.far_yes _ _ j (by rw [HLL.out]; exact hlt) (hal.trans h)).trans HJ.out
      have hno : (lB || dB) = false → j = K := fun h => (Tk.far_no _ _ j (by rw [HLL.out]; exact hlt) (hal.trans h)).symm.trans HJ.out
      have HY := Lib.hid hy
      have HNO := Lib.hid hno
      clear hlB hdB hal hy hno HJ
      have HS := Lib.hid (show ∀ wq : World, Calls Tryd.prog 38 #[.string (s.extract k K)] wq (StrPost wq (t.map Tk.lower1)) from fun wq => by have := small_any (s.extract k K) (by rw [ByteArray.size_extract]; omega) wq; rw [HX.out] at this; exact this)
      cases lB
      · cases dB
        · obtain rfl := HNO.out rfl
          clear HY HNO
          by_cases hlong : 32 < j - k
          · obtain rfl : RR = .error 2 := by rw [← HRR.out, if_pos hlong]
            obtain ⟨c0, c1, c2, c3, f0, f1, f2, f3⟩ := cells4 HN.out
            clear HS
            go_wp2_with (first | (go_at_call 25; refine (C1.out _).mono ?_; rintro e w' ⟨rfl, rfl⟩) | (go_at_call 26; refine (C2.out _).mono ?_; rintro e w' ⟨rfl, rfl⟩))
            refine bodyPost_ret (v := .tuple #[.agg #[.int .u8 0, .string ⟨#[]⟩, .int .i64 0, .int .i64 0], .int .i64 0, .int .i64 2]) (by simp [results, Tryd.results20, go_sem, c0, c1, c2, c3]) rfl ⟨rfl, ?_⟩
            exact below_set4 HB.out (Nat.le_refl _) _ _ _ _
          · obtain rfl : RR = .ok (1, t.map Tk.lower1, 0, r) := by rw [← HRR.out, if_neg hlong]
            obtain ⟨c0, c1, c2, c3, f0, f1, f2, f3⟩ := cells4 HN.out
            go_wp2_with (first | (go_at_call 25; refine (C1.out _).mono ?_; rintro e w' ⟨rfl, rfl⟩) | (go_at_call 26; refine (C2.out _).mono ?_; rintro e w' ⟨rfl, rfl⟩) | (go_at_call 38; refine (HS.out _).mono ?_; rintro e w1 ⟨rfl, hb1⟩; obtain ⟨c0, c1, c2, c3, f0, f1, f2, f3⟩ := cells4 ((hb1.block _ (by rw [HZ.out]; omega)).trans HN.out)))
            refine bodyPost_ret (v := .tuple #[.agg #[.int .u8 1, .string ⟨(t.map Tk.lower1).toArray⟩, .int .i64 0, .int .i64 k], .int .i64 j, .int .i64 0]) (by simp [results, Tryd.results20, go_sem, c0, c1, c2, c3]) rfl ⟨?_, ?_⟩
            · show _ = Ending.returned (.tuple #[_, .int .i64 ((s.size - r.length : Nat) : Int), _])
              rw [HR.out]
              rfl
            · exact below_set4 (HB.out.trans (hb1.mono (by rw [HZ.out]; omega))) (Nat.le_refl _) _ _ _ _
        · have HJ2 := Lib.hid (HY.out rfl)
          clear HY HNO HS
          go_wp2_with (first | (go_at_call 25; refine (C1.out _).mono ?_; rintro e w' ⟨rfl, rfl⟩) | (go_at_call 26; refine (C2.out _).mono ?_; rintro e w' ⟨rfl, rfl⟩))
          go_roundg (gk - 1)
          case measure => omega
          case rel => exact ⟨j + 1, by omega, by omega, by omega, by push_cast; rfl, rfl, HJ2.out⟩
      · have HJ2 := Lib.hid (HY.out rfl)
        clear HY HNO HS
        go_wp2_with (first | (go_at_call 25; refine (C1.out _).mono ?_; rintro e w' ⟨rfl, rfl⟩) | (go_at_call 26; refine (C2.out _).mono ?_; rintro e w' ⟨rfl, rfl⟩))
        go_roundg (gk - 1)
        case measure => omega
        case rel => exact ⟨j + 1, by omega, by omega, by omega, by push_cast; rfl, rfl, HJ2.out⟩
    · obtain rfl : j = s.size := by omega
      have hK2 : s.size = K := (Tk.far_end _ _ _ (by rw [HLL.out]; exact Nat.le_refl _)).symm.trans HJ.out
      subst hK2
      have HS := Lib.hid (show ∀ wq : World, Calls Tryd.prog 38 #[.string (s.extract k s.size)] wq (StrPost wq (t.map Tk.lower1)) from fun wq => by have := small_any (s.extract k s.size) (by rw [ByteArray.size_extract]; omega) wq; rw [HX.out] at this; exact this)
      by_cases hlong : 32 < s.size - k
      · obtain rfl : RR = .error 2 := by rw [← HRR.out, if_pos hlong]
        obtain ⟨c0, c1, c2, c3, f0, f1, f2, f3⟩ := cells4 HN.out
        clear HS
        go_wp2_with fail
        refine bodyPost_ret (v := .tuple #[.agg #[.int .u8 0, .string ⟨#[]⟩, .int .i64 0, .int .i64 0], .int .i64 0, .int .i64 2]) (by simp [results, Tryd.results20, go_sem, c0, c1, c2, c3]) rfl ⟨rfl, ?_⟩
        exact below_set4 HB.out (Nat.le_refl _) _ _ _ _
      · obtain rfl : RR = .ok (1, t.map Tk.lower1, 0, r) := by rw [← HRR.out, if_neg hlong]
        obtain ⟨c0, c1, c2, c3, f0, f1, f2, f3⟩ := cells4 HN.out
        go_wp2_with (go_at_call 38; refine (HS.out _).mono ?_; rintro e w1 ⟨rfl, hb1⟩; obtain ⟨c0, c1, c2, c3, f0, f1, f2, f3⟩ := cells4 ((hb1.block _ (by rw [HZ.out]; omega)).trans HN.out))
        refine bodyPost_ret (v := .tuple #[.agg #[.int .u8 1, .string ⟨(t.map Tk.lower1).toArray⟩, .int .i64 0, .int .i64 k], .int .i64 s.size, .int .i64 0]) (by simp [results, Tryd.results20, go_sem, c0, c1, c2, c3]) rfl ⟨?_, ?_⟩
        · show _ = Ending.returned (.tuple #[_, .int .i64 ((s.size - r.length : Nat) : Int), _])
          rw [HR.out]
          rfl
        · exact below_set4 (HB.out.trans (hb1.mono (by rw [HZ.out]; omega))) (Nat.le_refl _) _ _ _ _
end Go.Proofs.YteoleblodhgheaaDoor
