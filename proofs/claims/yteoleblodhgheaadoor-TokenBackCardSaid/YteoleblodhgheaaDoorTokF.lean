import Derived.Test.YteoleblodhgheaaDoorTokE
import Derived.Test.YteoleblodhgheaaDoorPTok3
namespace Go.Proofs.YteoleblodhgheaaDoor
open Go.RowKit
set_option maxHeartbeats 400000
/-- What a reading of one word hands back. -/
def ResPost (s : ByteArray) (k : Nat) (b : Nat) (w : World) (r : Except Nat (Nat × List UInt8 × Int × List UInt8)) (e : Ending) (w' : World) : Prop :=
  e = .returned (.tuple #[.agg #[.int .u8 (Tk.kindR r), .string ⟨(Tk.textR r).toArray⟩, .int .i64 (Tk.intR r), .int .i64 (Tk.posR k r)], .int .i64 (Tk.errR r)]) ∧ Upd b (lexObj s (Tk.endR s.size k r)) w w'
theorem word_res (s : ByteArray) (k : Nat) (hk : k < s.size) (hs : s.size ≤ 140737488355328) (b : Nat) (w : World) (hb : w.heap[b]? = some (lexObj s k)) (hc : Tk.letter s[k] = true) :
    Calls Tryd.prog 33 #[.pointer (some ⟨b, 0, none⟩)] w (ResPost s k b w (Tk.next (s.data.toList.drop k))) := by
  have hl := Tk.take_far Tk.alnum s.data.toList k
  have hge := Tk.far_ge Tk.alnum s.data.toList k
  have hlen : ((s.data.toList.drop k).takeWhile Tk.alnum).length = Tk.far Tk.alnum s.data.toList k - k := by unfold Tk.far; omega
  have hd := drop_at s k hk
  have hn : Tk.next (s.data.toList.drop k) = if 32 < ((s.data.toList.drop k).takeWhile Tk.alnum).length then .error 2 else .ok (1, ((s.data.toList.drop k).takeWhile Tk.alnum).map Tk.lower1, 0, (s.data.toList.drop k).dropWhile Tk.alnum) := by
    rw [hd, Tk.next, if_pos hc]
  rw [hn]
  by_cases hlong : 32 < ((s.data.toList.drop k).takeWhile Tk.alnum).length
  · rw [if_pos hlong]
    exact (word_long s k (by omega) (by omega) b w hb _ rfl (by omega)).mono fun e w' h => h
  · rw [if_neg hlong]
    refine (word_short s k (by omega) hs b w hb _ rfl (by omega)).mono fun e w' h => ⟨h.1, ?_⟩
    have : Tk.endR s.size k (.ok (1, ((s.data.toList.drop k).takeWhile Tk.alnum).map Tk.lower1, 0, (s.data.toList.drop k).dropWhile Tk.alnum)) = Tk.far Tk.alnum s.data.toList k := by
      have hle := Tk.far_le Tk.alnum s.data.toList k (by rw [Array.length_toList]; exact Nat.le_of_lt hk)
      rw [Array.length_toList] at hle
      have hle' : Tk.far Tk.alnum s.data.toList k ≤ s.size := hle
      show s.size - ((s.data.toList.drop k).dropWhile Tk.alnum).length = _
      rw [← Tk.drop_far, List.length_drop, Array.length_toList]
      show s.size - (s.size - _) = _
      omega
    rw [this]
    exact h.2
theorem text_res (s : ByteArray) (k : Nat) (hk : k < s.size) (hs : s.size ≤ 140737488355328) (b : Nat) (w : World) (hb : w.heap[b]? = some (lexObj s k)) (hc : s[k] = 39) :
    Calls Tryd.prog 36 #[.pointer (some ⟨b, 0, none⟩)] w (ResPost s k b w (Tk.next (s.data.toList.drop k))) := by
  refine (text_any s k hk hs b w hb).mono fun e w' h => ?_
  cases hT : Tk.textGo (s.data.toList.drop (k + 1)) with
  | none =>
    rw [hT] at h
    have hn : Tk.next (s.data.toList.drop k) = .error 30 := by
      rw [drop_at s k hk, Tk.next, hc, if_neg (by decide), if_neg (by decide), if_pos rfl, hT]
    rw [hn]
    exact h
  | some r =>
    obtain ⟨t, r⟩ := r
    rw [hT] at h
    have hn : Tk.next (s.data.toList.drop k) = .ok (3, t, 0, r) := by
      rw [drop_at s k hk, Tk.next, hc, if_neg (by decide), if_neg (by decide), if_pos rfl, hT]
    rw [hn]
    exact h
theorem sign_res (s : ByteArray) (k : Nat) (hk : k < s.size) (hs : s.size ≤ 140737488355328) (b : Nat) (w : World) (hb : w.heap[b]? = some (lexObj s k)) (hE : Env w)
    (h1 : Tk.letter s[k] = false) (h2 : Tk.digit s[k] = false) (h3 : s[k] ≠ 39) :
    Calls Tryd.prog 37 #[.pointer (some ⟨b, 0, none⟩)] w (ResPost s k b w (Tk.next (s.data.toList.drop k))) := by
  refine (sign_any s k (by omega) hs b w hb hE).mono fun e w' h => ?_
  cases hT : Tk.signOf (s.data.toList.drop k) 0 with
  | none =>
    rw [hT] at h
    have hn : Tk.next (s.data.toList.drop k) = .error 30 := by
      rw [drop_at s k hk] at hT ⊢
      rw [Tk.next, if_neg (by simp [h1]), if_neg (by simp [h2]), if_neg h3, hT]
    rw [hn]
    exact h
  | some g =>
    rw [hT] at h
    have hn : Tk.next (s.data.toList.drop k) = .ok (4, g, 0, (s.data.toList.drop k).drop g.length) := by
      rw [drop_at s k hk] at hT ⊢
      rw [Tk.next, if_neg (by simp [h1]), if_neg (by simp [h2]), if_neg h3, hT]
    rw [hn]
    refine ⟨h.1, ?_⟩
    have hp : g.isPrefixOf (s.data.toList.drop k) = true := by
      unfold Tk.signOf at hT
      exact List.find?_some (p := fun x : List UInt8 => x.isPrefixOf (s.data.toList.drop k)) hT
    have hlen := (List.isPrefixOf_iff_prefix.1 hp).length_le
    rw [List.length_drop, Array.length_toList] at hlen
    have hlen' : g.length ≤ s.size - k := hlen
    have : Tk.endR s.size k (.ok (4, g, 0, (s.data.toList.drop k).drop g.length)) = k + g.length := by
      show s.size - ((s.data.toList.drop k).drop g.length).length = _
      rw [List.drop_drop, List.length_drop, Array.length_toList]
      show s.size - (s.size - _) = _
      omega
    rw [this]
    exact h.2
theorem number_res (s : ByteArray) (k : Nat) (hk : k < s.size) (hs : s.size ≤ 140737488355328) (b : Nat) (w : World) (hb : w.heap[b]? = some (lexObj s k)) (hE : Env w) (hb12 : 11 ≤ b)
    (h1 : Tk.letter s[k] = false) (h2 : Tk.digit s[k] = true) :
    Calls Tryd.prog 34 #[.pointer (some ⟨b, 0, none⟩)] w (ResPost s k b w (Tk.next (s.data.toList.drop k))) := by
  have hd := drop_at s k hk
  have hle := Tk.far_le Tk.digit s.data.toList k (by rw [Array.length_toList]; exact Nat.le_of_lt hk)
  rw [Array.length_toList] at hle
  have hle' : Tk.far Tk.digit s.data.toList k ≤ s.size := hle
  have hgt : k < Tk.far Tk.digit s.data.toList k := by
    unfold Tk.far
    rw [hd, List.takeWhile_cons, if_pos h2]
    simp only [List.length_cons]
    omega
  have hx : (s.extract k (Tk.far Tk.digit s.data.toList k)).data.toList = (s.data.toList.drop k).takeWhile Tk.digit := by
    rw [Lib.extract_data, Tk.take_far]
  have hdw := Tk.drop_far Tk.digit s.data.toList k
  have hne : (s.data.toList.drop k).takeWhile Tk.digit ≠ [] := by
    rw [hd, List.takeWhile_cons, if_pos h2]
    simp
  have hP := Tk.parseIntB_digits _ hne (Tk.takeWhile_all _ _)
  have hn : Tk.next (s.data.toList.drop k) = if Tk.value ((s.data.toList.drop k).takeWhile Tk.digit) > 9223372036854775807 ∨ (s[k] = 48 ∧ (s.data.toList.drop k).takeWhile Tk.digit ≠ [48]) ∨ (((s.data.toList.drop k).dropWhile Tk.digit).head?.map Tk.letter) = some true then .error 30
      else .ok (2, [], Tk.value ((s.data.toList.drop k).takeWhile Tk.digit), (s.data.toList.drop k).dropWhile Tk.digit) := by
    rw [hd, Tk.next, if_neg (by simp [h1]), if_pos h2]
  rw [hn]
  by_cases hv : Tk.value ((s.data.toList.drop k).takeWhile Tk.digit) > 9223372036854775807
  · rw [if_pos (Or.inl hv)]
    obtain ⟨tp, pv, hvar⟩ := hE.range
    exact (number_over s k (by omega) hs b w hb _ rfl (by rw [hx, hP, if_pos hv]) hgt tp pv hvar (by omega)).mono fun e w' h => h
  · have hk2 : Tk.far Tk.digit s.data.toList k < Tk.far Tk.letter s.data.toList (Tk.far Tk.digit s.data.toList k) ↔ (((s.data.toList.drop k).dropWhile Tk.digit).head?.map Tk.letter) = some true := by
      rw [Tk.far_lt, hdw]
    have hI := number_in s k (by omega) hs b w hb _ rfl (Tk.value ((s.data.toList.drop k).takeWhile Tk.digit)) (by rw [hx, hP, if_neg hv]) hgt _ rfl _ rfl
    refine hI.mono fun e w' h => ?_
    have hB : badB (s.extract k (Tk.far Tk.digit s.data.toList k)) (Tk.far Tk.digit s.data.toList k) (Tk.far Tk.letter s.data.toList (Tk.far Tk.digit s.data.toList k)) = true ↔
        (s[k] = 48 ∧ (s.data.toList.drop k).takeWhile Tk.digit ≠ [48]) ∨ (((s.data.toList.drop k).dropWhile Tk.digit).head?.map Tk.letter) = some true := by
      unfold badB
      rw [Bool.or_eq_true, decide_eq_true_eq, decide_eq_true_eq, hk2, ByteArray.toList_eq, hx]
      have : ((s.data.toList.drop k).takeWhile Tk.digit).head? = some s[k] := by
        rw [hd, List.takeWhile_cons, if_pos h2]
        rfl
      rw [this]
      simp
    cases hbad : badB (s.extract k (Tk.far Tk.digit s.data.toList k)) (Tk.far Tk.digit s.data.toList k) (Tk.far Tk.letter s.data.toList (Tk.far Tk.digit s.data.toList k)) with
    | true =>
      rw [hbad] at h
      rw [if_pos (Or.inr (hB.1 hbad))]
      exact h
    | false =>
      rw [hbad] at h hB
      rw [if_neg (by rintro (h | h); exact hv h; exact absurd (hB.2 h) (by simp))]
      refine ⟨h.1, ?_⟩
      have : Tk.endR s.size k (.ok (2, [], (Tk.value ((s.data.toList.drop k).takeWhile Tk.digit) : Int), (s.data.toList.drop k).dropWhile Tk.digit)) = Tk.far Tk.digit s.data.toList k := by
        show s.size - ((s.data.toList.drop k).dropWhile Tk.digit).length = _
        rw [← hdw, List.length_drop, Array.length_toList]
        show s.size - (s.size - _) = _
        omega
      rw [this]
      exact h.2
end Go.Proofs.YteoleblodhgheaaDoor
