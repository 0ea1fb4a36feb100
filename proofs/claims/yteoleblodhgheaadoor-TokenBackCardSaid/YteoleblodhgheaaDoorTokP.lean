import Derived.Test.YteoleblodhgheaaDoorTokN
import Derived.Test.YteoleblodhgheaaDoorPLawE
import Derived.Laws.IdiomStrings
namespace Go.Proofs.YteoleblodhgheaaDoor
open Go.RowKit
set_option maxHeartbeats 400000
/-- A call that answers a text and turns nothing that was there. -/
def StrPost (w : World) (l : List UInt8) (e : Ending) (w' : World) : Prop := e = .returned (.string ⟨l.toArray⟩) ∧ Below w.heap.size w w'
theorem str_snoc (l : List UInt8) (c : UInt8) : ((⟨l.toArray⟩ : ByteArray) ++ ⟨#[c]⟩) = ⟨(l ++ [c]).toArray⟩ := by
  apply ByteArray.ext
  simp
theorem str_cons (l : List UInt8) (c : UInt8) : ((⟨#[c]⟩ : ByteArray) ++ ⟨l.toArray⟩) = ⟨(c :: l).toArray⟩ := by
  apply ByteArray.ext
  simp
theorem take_map_succ (f : UInt8 → UInt8) (s : ByteArray) (k : Nat) (h : k < s.size) : (s.data.toList.take (k + 1)).map f = (s.data.toList.take k).map f ++ [f s[k]] := by
  rw [List.take_succ_eq_append_getElem (by rw [Array.length_toList]; exact h), List.map_append]
  rfl
/-- string([]byte{c}). -/
theorem conv_one (w : World) (c : UInt8) (n : Int) (hn : n = (c.toNat : Int)) :
    (convert 29 9 (.slice (some ⟨w.heap.size, 0, none⟩) 1 1)).run Tryd.prog (w.alloc (.cells #[.int .u8 n] 5)) = .ok (.string ⟨#[c]⟩) (w.alloc (.cells #[.int .u8 n] 5)) := by
  subst hn
  have := run_convert_bytes_back (P := Tryd.prog) (w.alloc (.cells #[.int .u8 (c.toNat : Int)] 5)) 29 9 5 ⟨w.heap.size, 0, none⟩ 1 [c] Tryd.underlying29 Tryd.underlying5 Tryd.underlying9 (by
    intro j hj
    obtain rfl : j = 0 := by simpa using hj
    have e : ((⟨w.heap.size, 0, none⟩ : Addr).add 0) = ⟨w.heap.size, 0, none⟩ := by simp [Addr.add]
    rw [e, blk_cell (alloc_now w _)]
    rfl)
  exact this
set_option maxRecDepth 100000 in
theorem upper_in {c : UInt8} (h1 : 97 ≤ (c.toNat : Int)) (h2 : (c.toNat : Int) ≤ 122) : (c.toNat : Int) - 32 = ((Tk.upper1 c).toNat : Int) := by
  unfold Tk.upper1
  rw [if_pos (by omega)]
  have h3 : (32 : UInt8) ≤ c := by
    rw [UInt8.le_iff_toNat_le]
    have : (32 : UInt8).toNat = 32 := rfl
    omega
  rw [UInt8.toNat_sub_of_le _ _ h3]
  have : (32 : UInt8).toNat = 32 := rfl
  omega
theorem upper_out {c : UInt8} (h : ¬ (97 ≤ (c.toNat : Int) ∧ (c.toNat : Int) ≤ 122)) : (c.toNat : Int) = ((Tk.upper1 c).toNat : Int) := by
  unfold Tk.upper1
  rw [if_neg (by omega)]
set_option maxRecDepth 100000 in
theorem great_any (s : ByteArray) (hs : s.size ≤ 1000) (w : World) : Calls Tryd.prog 27 #[.string s] w (StrPost w (s.data.toList.map Tk.upper1)) := by
  go_enter Tryd.func27, Tryd.ntmps27
  go_wp2_with fail
  go_loopg [3, 4] (s.size + 1) (fun n o i wr => ∃ k : Nat, k ≤ s.size ∧ s.size - k < n ∧ i = .int .i64 k ∧ o = .string ⟨((s.data.toList.take k).map Tk.upper1).toArray⟩ ∧ Hid (Below w.heap.size w wr))
  case atStart => exact ⟨0, by omega, by omega, rfl, rfl, Below.refl _ _⟩
  case round =>
    obtain ⟨k, hk, hn, rfl, rfl, HB⟩ := hrel
    by_cases hlt : k < s.size
    · have HT := Lib.hid (take_map_succ Tk.upper1 s k hlt)
      generalize hl : (s.data.toList.take k).map Tk.upper1 = l at *
      have hln : l.length ≤ 1000 := by rw [← hl, List.length_map, List.length_take]; omega
      have HL := Lib.hid hl
      clear hl
      by_cases hc : 97 ≤ (s[k].toNat : Int) ∧ (s[k].toNat : Int) ≤ 122
      · have k1 := conv_one wr (Tk.upper1 s[k]) _ (upper_in hc.1 hc.2)
        obtain ⟨hc1, hc2⟩ := hc
        generalize Tk.upper1 s[k] = c at *
        go_wp2_with fail
        go_roundg (gk - 1)
        case measure => omega
        case rel => exact ⟨k + 1, by omega, by omega, by push_cast; rfl, by rw [HT.out, ← str_snoc], HB.out.alloc HB.out.size _⟩
      · have k1 := conv_one wr (Tk.upper1 s[k]) _ (upper_out hc)
        generalize Tk.upper1 s[k] = c at *
        go_wp2_with fail
        all_goals
          go_roundg (gk - 1)
          (case measure => omega)
          (case rel => exact ⟨k + 1, by omega, by omega, by push_cast; rfl, by rw [HT.out, ← str_snoc], HB.out.alloc HB.out.size _⟩)
    · obtain rfl : k = s.size := by omega
      rw [List.take_of_length_le (show s.data.toList.length ≤ s.size by rw [Array.length_toList]; exact Nat.le_refl _)]
      go_wp2_with fail
      go_ret
      exact ⟨rfl, HB.out⟩
theorem digits_length : ∀ (k n : Nat), n < 10 ^ (k + 1) → (Tk.digitsL n).length ≤ k + 1 := by
  intro k
  induction k with
  | zero => intro n h; rw [Tk.digitsL_small (by omega)]; simp
  | succ k ih =>
    intro n h
    by_cases h10 : n < 10
    · rw [Tk.digitsL_small h10]; simp
    · rw [Tk.digitsL_more h10, List.length_append]
      have := ih (n / 10) (by rw [Nat.div_lt_iff_lt_mul (by decide)]; rw [Nat.pow_succ] at h; exact h)
      simp only [List.length_cons, List.length_nil]
      omega
set_option maxRecDepth 100000 in
theorem digits_any (m0 : Nat) (hm0 : m0 ≤ 9223372036854775807) (w : World) : Calls Tryd.prog 28 #[.int .i64 m0] w (StrPost w (Tk.digitsL m0)) := by
  have hlen := digits_length 18 m0 (by omega)
  generalize hR : Tk.digitsL m0 = R at *
  have HR := Lib.hid hR
  clear hR
  go_enter Tryd.func28, Tryd.ntmps28
  go_wp2_with fail
  go_loopg [0, 3] m0 (fun n v o wr => ∃ (m : Nat) (acc : List UInt8), m ≤ 9223372036854775807 ∧ m ≤ n ∧ v = .int .i64 m ∧ o = .string ⟨acc.toArray⟩ ∧ Hid (Tk.digitsL m ++ acc = R) ∧ Hid (Below w.heap.size w wr))
  case atStart => exact ⟨m0, [], hm0, Nat.le_refl _, rfl, rfl, by rw [List.append_nil]; exact HR.out, Below.refl _ _⟩
  case round =>
    clear HR
    obtain ⟨m, acc, hm, hn, rfl, rfl, HR, HB⟩ := hrel
    have hal : acc.length ≤ 19 := by
      have := congrArg List.length HR.out
      rw [List.length_append] at this
      omega
    obtain ⟨d, hd⟩ : ∃ d, d = UInt8.ofNat (48 + m % 10) := ⟨_, rfl⟩
    have k1 := conv_one wr d (48 + (m : Int) % 10) (by rw [hd, Tk.toNat_digit (by omega)]; push_cast; rfl)
    by_cases h10 : m < 10
    · have hr : d :: acc = R := by
        rw [← HR.out, Tk.digitsL_small h10, hd, show m % 10 = m by omega]
        rfl
      have HD := Lib.hid hr
      clear hd hr
      go_wp2_with fail
      go_ret
      refine ⟨?_, HB.out.alloc HB.out.size _⟩
      rw [← HD.out, ← str_cons]
      rfl
    · have hr : Tk.digitsL (m / 10) ++ (d :: acc) = R := by
        rw [← HR.out, Tk.digitsL_more h10, hd, List.append_assoc]
        rfl
      have HD := Lib.hid hr
      clear hd hr
      go_wp2_with fail
      go_roundg (gk - 1)
      case measure => omega
      case rel => exact ⟨m / 10, d :: acc, by omega, by omega, by push_cast; rfl, congrArg Value.string (str_cons acc d), HD.out, HB.out.alloc HB.out.size _⟩
theorem ext_one (s : ByteArray) (k : Nat) (h : k < s.size) : s.extract k (k + 1) = ⟨#[s[k]]⟩ := by
  apply ByteArray.ext
  rw [ByteArray.data_extract]
  apply Array.ext'
  rw [Array.toList_extract, List.extract, drop_at s k h, Nat.add_sub_cancel_left]
  rfl
theorem quoteL_app (a b : List UInt8) : Tk.quoteL (a ++ b) = Tk.quoteL a ++ Tk.quoteL b := by simp [Tk.quoteL]
theorem quoteL_length (a : List UInt8) : (Tk.quoteL a).length ≤ 2 * a.length := by
  induction a with
  | nil => simp [Tk.quoteL]
  | cons c cs ih =>
    have e : Tk.quoteL (c :: cs) = (if c = 39 then [39, 39] else [c]) ++ Tk.quoteL cs := rfl
    rw [e, List.length_append]
    split <;> simp only [List.length_cons, List.length_nil] <;> omega
theorem take_quote_succ (s : ByteArray) (k : Nat) (h : k < s.size) : Tk.quoteL (s.data.toList.take (k + 1)) = Tk.quoteL (s.data.toList.take k) ++ (if s[k] = 39 then [39, 39] else [s[k]]) := by
  rw [List.take_succ_eq_append_getElem (by rw [Array.length_toList]; exact h), quoteL_app]
  simp [Tk.quoteL]
  rfl
/-- A word's value. -/
def tokB (kd : Int) (tx : ByteArray) (i a : Int) : Value := .agg #[.int .u8 kd, .string tx, .int .i64 i, .int .i64 a]
set_option maxRecDepth 100000 in
theorem written_word (tx : ByteArray) (hs : tx.size ≤ 1000) (i a : Int) (caps : Bool) (w : World) : Calls Tryd.prog 16 #[.agg #[.int .u8 1, .string tx, .int .i64 i, .int .i64 a], .bool caps] w (StrPost w (Tk.writtenL 1 tx.data.toList i caps)) := by
  have G := Lib.hid (great_any tx hs)
  have e1 := alloc_now w (.cells #[.int .u8 1, .string tx, .int .i64 i, .int .i64 a] 31)
  obtain ⟨c0, c1, c2, c3, _⟩ := cells4 e1
  clear e1
  have hb := (Below.refl w.heap.size w).alloc (Nat.le_refl _) (.cells #[.int .u8 1, .string tx, .int .i64 i, .int .i64 a] 31)
  have HB := Lib.hid hb
  clear hb
  cases caps
  · go_enter Tryd.func16, Tryd.ntmps16
    go_wp2_with fail
    go_ret
    exact ⟨rfl, HB.out⟩
  · go_enter Tryd.func16, Tryd.ntmps16
    go_wp2_with ((go_at_call 27; refine (G.out _).mono ?_; rintro e w1 ⟨rfl, hb⟩; replace HB := Lib.hid (HB.out.trans (hb.mono HB.out.size)); clear hb))
    go_ret
    exact ⟨rfl, HB.out⟩
set_option maxRecDepth 100000 in
theorem written_int (tx : ByteArray) (i : Nat) (hi : i ≤ 9223372036854775807) (a : Int) (caps : Bool) (w : World) : Calls Tryd.prog 16 #[.agg #[.int .u8 2, .string tx, .int .i64 i, .int .i64 a], .bool caps] w (StrPost w (Tk.writtenL 2 tx.data.toList i caps)) := by
  have G := Lib.hid (digits_any i hi)
  have e1 := alloc_now w (.cells #[.int .u8 2, .string tx, .int .i64 i, .int .i64 a] 31)
  obtain ⟨c0, c1, c2, c3, _⟩ := cells4 e1
  clear e1
  have hb := (Below.refl w.heap.size w).alloc (Nat.le_refl _) (.cells #[.int .u8 2, .string tx, .int .i64 i, .int .i64 a] 31)
  have HB := Lib.hid hb
  clear hb
  go_enter Tryd.func16, Tryd.ntmps16
  go_wp2_with ((go_at_call 28; refine (G.out _).mono ?_; rintro e w1 ⟨rfl, hb⟩; replace HB := Lib.hid (HB.out.trans (hb.mono HB.out.size)); clear hb))
  go_ret
  exact ⟨rfl, HB.out⟩
set_option maxRecDepth 100000 in
theorem written_sign (tx : ByteArray) (i a : Int) (caps : Bool) (w : World) : Calls Tryd.prog 16 #[.agg #[.int .u8 4, .string tx, .int .i64 i, .int .i64 a], .bool caps] w (StrPost w (Tk.writtenL 4 tx.data.toList i caps)) := by
  have e1 := alloc_now w (.cells #[.int .u8 4, .string tx, .int .i64 i, .int .i64 a] 31)
  obtain ⟨c0, c1, c2, c3, _⟩ := cells4 e1
  clear e1
  have hb := (Below.refl w.heap.size w).alloc (Nat.le_refl _) (.cells #[.int .u8 4, .string tx, .int .i64 i, .int .i64 a] 31)
  have HB := Lib.hid hb
  clear hb
  go_enter Tryd.func16, Tryd.ntmps16
  go_wp2_with fail
  go_ret
  exact ⟨rfl, HB.out⟩
set_option maxRecDepth 100000 in
theorem written_text (tx : ByteArray) (hs : tx.size ≤ 1000) (i a : Int) (caps : Bool) (w : World) : Calls Tryd.prog 16 #[.agg #[.int .u8 3, .string tx, .int .i64 i, .int .i64 a], .bool caps] w (StrPost w (Tk.writtenL 3 tx.data.toList i caps)) := by
  have e1 := alloc_now w (.cells #[.int .u8 3, .string tx, .int .i64 i, .int .i64 a] 31)
  have E1 := Lib.hid e1
  obtain ⟨c0, c1, c2, c3, _⟩ := cells4 e1
  clear e1
  have hb := (Below.refl w.heap.size w).alloc (Nat.le_refl _) (.cells #[.int .u8 3, .string tx, .int .i64 i, .int .i64 a] 31)
  have HB := Lib.hid hb
  clear hb
  go_enter Tryd.func16, Tryd.ntmps16
  go_wp2_with fail
  generalize w.alloc (.cells #[.int .u8 3, .string tx, .int .i64 i, .int .i64 a] 31) = W at *
  go_loopg [5, 6] (tx.size + 1) (fun n o v wr => ∃ k : Nat, k ≤ tx.size ∧ tx.size - k < n ∧ v = .int .i64 k ∧ o = .string ⟨(39 :: Tk.quoteL (tx.data.toList.take k)).toArray⟩ ∧ wr = W)
  case atStart => exact ⟨0, by omega, by omega, rfl, rfl, rfl⟩
  case round =>
    obtain ⟨k, hk, hn, rfl, rfl, rfl⟩ := hrel
    by_cases hlt : k < tx.size
    · have HT := Lib.hid (take_quote_succ tx k hlt)
      have hln : (39 :: Tk.quoteL (tx.data.toList.take k)).length ≤ 2001 := by
        have := quoteL_length (tx.data.toList.take k)
        rw [List.length_take] at this
        simp only [List.length_cons]
        omega
      have k1 := ext_one tx k hlt
      generalize hl : Tk.quoteL (tx.data.toList.take k) = l at *
      generalize hl2 : 39 :: l = l2 at *
      have HL := Lib.hid hl2
      clear hl hl2
      have K1 := Lib.hid k1
      clear k1
      by_cases hq : (tx[k].toNat : Int) = 39
      · have hq2 : tx[k] = 39 := byte_eq (n := 39) (by decide) hq
        have hfin : ({ data := l2.toArray } : ByteArray) ++ { data := #[39] } ++ tx.extract k (k + 1) = ⟨(39 :: Tk.quoteL (tx.data.toList.take (k + 1))).toArray⟩ := by
          rw [K1.out, str_snoc, str_snoc, HT.out, ← HL.out, if_pos hq2, hq2]
          congr 1
          simp
        have HF := Lib.hid hfin
        clear hfin hq2
        go_wp2_with fail
        go_roundg (gk - 1)
        case measure => omega
        case rel => exact ⟨k + 1, by omega, by omega, by push_cast; rfl, congrArg Value.string HF.out, rfl⟩
      · have hq2 : tx[k] ≠ 39 := byte_ne (n := 39) (by decide) hq
        have hfin : ({ data := l2.toArray } : ByteArray) ++ tx.extract k (k + 1) = ⟨(39 :: Tk.quoteL (tx.data.toList.take (k + 1))).toArray⟩ := by
          rw [K1.out, str_snoc, HT.out, ← HL.out, if_neg hq2]
          rfl
        have HF := Lib.hid hfin
        clear hfin hq2
        go_wp2_with fail
        go_roundg (gk - 1)
        case measure => omega
        case rel => exact ⟨k + 1, by omega, by omega, by push_cast; rfl, congrArg Value.string HF.out, rfl⟩
    · obtain rfl : k = tx.size := by omega
      rw [List.take_of_length_le (show tx.data.toList.length ≤ tx.size by rw [Array.length_toList]; exact Nat.le_refl _)]
      have hln : (39 :: Tk.quoteL tx.data.toList).length ≤ 2001 := by
        have := quoteL_length tx.data.toList
        have h2 : tx.data.toList.length = tx.size := by rw [Array.length_toList]; rfl
        rw [h2] at this
        simp only [List.length_cons]
        omega
      have hfin : (39 :: Tk.quoteL tx.data.toList) ++ [39] = Tk.writtenL 3 tx.data.toList i caps := rfl
      generalize 39 :: Tk.quoteL tx.data.toList = l2 at *
      have HF := Lib.hid (str_snoc l2 39)
      rw [hfin] at HF
      clear hfin
      go_wp2_with fail
      go_ret
      exact ⟨congrArg (fun x => Ending.returned (Value.string x)) HF.out, HB.out⟩
theorem written_any (t : Tk.Tok) (h : Tk.TokOk t.kind t.text t.int) (hs : t.text.length ≤ 1000) (caps : Bool) (w : World) :
    Calls Tryd.prog 16 #[.agg #[.int .u8 t.kind, .string ⟨t.text.toArray⟩, .int .i64 t.int, .int .i64 t.pos], .bool caps] w (StrPost w (Tk.writtenL t.kind t.text t.int caps)) := by
  obtain ⟨k, tx, i, p⟩ := t
  simp only at h hs ⊢
  rcases h with ⟨rfl, rfl, _⟩ | ⟨rfl, rfl, h0, h1⟩ | ⟨rfl, rfl⟩ | ⟨rfl, rfl, _⟩
  · exact written_word ⟨tx.toArray⟩ hs 0 p caps w
  · obtain ⟨m, rfl⟩ : ∃ m : Nat, i = m := ⟨i.toNat, by omega⟩
    exact written_int ⟨#[]⟩ m (by omega) p caps w
  · exact written_text ⟨tx.toArray⟩ hs 0 p caps w
  · exact written_sign ⟨tx.toArray⟩ 0 p caps w
end Go.Proofs.YteoleblodhgheaaDoor
