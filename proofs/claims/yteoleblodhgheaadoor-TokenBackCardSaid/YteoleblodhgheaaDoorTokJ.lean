import Derived.Test.YteoleblodhgheaaDoorTokI
namespace Go.Proofs.YteoleblodhgheaaDoor
open Go.RowKit
set_option maxHeartbeats 400000
/-- A call that answers a truth and turns nothing that was there. -/
def BoolPost (w : World) (b : Bool) (e : Ending) (w' : World) : Prop := e = .returned (.bool b) ∧ Below w.heap.size w w'
set_option maxRecDepth 100000 in
theorem reserved_any (s : ByteArray) (w : World) (hE : Env w) : Calls Tryd.prog 12 #[.string s] w (BoolPost w (Tk.reserved s.data.toList)) := by
  have R := reserved_map w hE
  clear hE
  have HR := Lib.hid R
  clear R
  go_enter Tryd.func12, Tryd.ntmps12
  go_wp2_with (go_at_call 21; refine HR.out.mono ?_; rintro e w' ⟨r, es, clock, rfl, hm, hes, hb⟩)
  obtain ⟨a, h1, h2, h3⟩ := find_str s Tk.words 0 0
  have hL := run_lookup_known (P := Tryd.prog) (w := w') Tryd.underlying44 Tryd.underlying9 (Or.inl rfl) (z := .bool false) (fun _ => rfl) hm (.string s) (a := a) (by rw [hes]; exact h1) false
  have hv : (if (false : Bool) then Value.tuple #[(a.map (·.2)).getD (.bool false), .bool a.isSome] else (a.map (·.2)).getD (.bool false)) = .bool (Tk.reserved s.data.toList) := by
    unfold Tk.reserved
    rw [← h2]
    cases a with
    | none => rfl
    | some x => simp [h3 x rfl]
  rw [hv] at hL
  clear h1 h2 h3 hv hm hes
  generalize Tk.reserved s.data.toList = bb at *
  go_wp2_with fail
  simp only [hL, Result.andThen]
  go_wp2_with fail
  go_ret
  exact ⟨rfl, hb⟩
theorem name_empty : Tk.name [] = false := rfl
def nameB (x : UInt8) : Bool := !(decide (65 ≤ x.toNat ∧ x.toNat ≤ 90)) && Tk.alnum x
theorem name_no1 {c : UInt8} (h1 : 65 ≤ (c.toNat : Int)) (h2 : (c.toNat : Int) ≤ 90) : nameB c = false := by
  have : 65 ≤ c.toNat ∧ c.toNat ≤ 90 := by omega
  simp [nameB, this]
theorem name_no2 {c : UInt8} (h1 : Tk.letter c = false) (h2 : Tk.digit c = false) : nameB c = false := by simp [nameB, Tk.alnum, h1, h2]
theorem name_yes1 {c : UInt8} (h : ¬ (65 ≤ (c.toNat : Int) ∧ (c.toNat : Int) ≤ 90)) (h1 : Tk.letter c = true) : nameB c = true := by
  have : ¬ (65 ≤ c.toNat ∧ c.toNat ≤ 90) := by omega
  simp [nameB, Tk.alnum, h1, this]
theorem name_yes2 {c : UInt8} (h : ¬ (65 ≤ (c.toNat : Int) ∧ (c.toNat : Int) ≤ 90)) (h1 : Tk.digit c = true) : nameB c = true := by
  have : ¬ (65 ≤ c.toNat ∧ c.toNat ≤ 90) := by omega
  simp [nameB, Tk.alnum, h1, this]
theorem name_is (s : ByteArray) (h : 0 < s.size) : Tk.name s.data.toList = (decide (s.size ≤ 32) && !Tk.reserved s.data.toList && !Tk.digit s[0] && s.data.toList.all nameB) := by
  have hd := drop_at s 0 h
  rw [List.drop_zero] at hd
  have hl : s.data.toList.length = s.size := by rw [Array.length_toList]; rfl
  rw [← hl]
  have hgen : ∀ (l : List UInt8) (c : UInt8) (cs : List UInt8), l = c :: cs → Tk.name l = (decide (l.length ≤ 32) && !Tk.reserved l && !Tk.digit c && l.all nameB) := by
    rintro l c cs rfl
    rfl
  exact hgen _ _ _ hd
theorem all_at (s : ByteArray) (p : UInt8 → Bool) (k : Nat) (h : k < s.size) : (s.data.toList.drop k).all p = (p s[k] && (s.data.toList.drop (k + 1)).all p) := by
  rw [drop_at s k h, List.all_cons]
set_option maxRecDepth 100000 in
theorem name_any (s : ByteArray) (w : World) (hE : Env w) : Calls Tryd.prog 14 #[.string s] w (BoolPost w (Tk.name s.data.toList)) := by
  have R := reserved_any s w hE
  clear hE
  generalize hB : Tk.name s.data.toList = B
  have HR := Lib.hid R
  have HB := Lib.hid hB
  clear R hB
  go_enter Tryd.func14, Tryd.ntmps14
  by_cases h0 : s.size = 0
  · have hs : s = ⟨#[]⟩ := by
      obtain ⟨d⟩ := s
      have : d = #[] := Array.eq_empty_of_size_eq_zero h0
      rw [this]
    subst hs
    have hB : Tk.name [] = B := HB.out
    rw [name_empty] at hB
    subst hB
    go_wp2_with fail
    go_ret
    exact ⟨rfl, Below.refl _ _⟩
  · have hne : ¬ s.toList = [] := by
      intro h
      rw [ByteArray.toList_eq] at h
      have h2 : s.data.toList.length = 0 := by rw [h]; rfl
      rw [Array.length_toList] at h2
      exact h0 h2
    have hemp : s.toList.isEmpty = false := by simpa using hne
    have hpos : 0 < s.size := by omega
    have hN := name_is s hpos
    rw [HB.out] at hN
    have HN := Lib.hid hN
    clear hN HB
    by_cases h32 : s.size ≤ 32
    · go_wp2_with (first | (go_at_call 12; refine HR.out.mono ?_; rintro e w' ⟨rfl, hb⟩; generalize hrr : Tk.reserved s.data.toList = rr at *; cases rr) | (go_at_call 23; refine (digit_any _ _).mono ?_; rintro e w1 ⟨rfl, rfl⟩; generalize hdd : Tk.digit s[0] = dd at *; cases dd))
      · have HH := Lib.hid hrr
        clear hrr HR
        go_loopg [23] (s.size + 1) (fun n i wr => ∃ k : Nat, k ≤ s.size ∧ s.size - k < n ∧ i = .int .i64 k ∧ Hid (Below w.heap.size w wr) ∧ Hid (B = (s.data.toList.drop k).all nameB))
        case atStart => exact ⟨0, by omega, by omega, rfl, hb, by show B = _; rw [HN.out]; simp [h32]⟩
        case round =>
          clear HN
          obtain ⟨k, hk, hn, rfl, HB, HI⟩ := hrel
          by_cases hlt : k < s.size
          · have hI := HI.out
            rw [all_at s nameB k hlt] at hI
            have HI2 := Lib.hid hI
            clear hI HI
            go_wp2_with (first | (go_at_call 24; refine (letter_any _ _).mono ?_; rintro e w1 ⟨rfl, rfl⟩; generalize hll : Tk.letter s[k] = ll at *; cases ll) | (go_at_call 23; refine (digit_any _ _).mono ?_; rintro e w1 ⟨rfl, rfl⟩; generalize hdd : Tk.digit s[k] = dd at *; cases dd))
            all_goals first
              | (have hx : B = false := by
                  rw [HI2.out, show nameB s[k] = false from by first | exact name_no2 hll hdd | exact name_no1 (by omega) (by omega)]
                  rfl
                 subst hx
                 go_ret
                 exact ⟨rfl, HB.out⟩)
              | (go_roundg (gk - 1)
                 (case measure => omega)
                 (case rel => exact ⟨k + 1, by omega, by omega, by push_cast; rfl, HB.out, by rw [HI2.out, show nameB s[k] = true from by first | exact name_yes1 (by omega) hll | exact name_yes2 (by omega) hdd]; rfl⟩))
          · obtain rfl : k = s.size := by omega
            have hI := HI.out
            rw [drop_end] at hI
            subst hI
            go_wp2_with fail
            go_ret
            exact ⟨rfl, HB.out⟩
      · have : B = false := by rw [HN.out]; simp
        subst this
        go_ret
        exact ⟨rfl, hb⟩
      · have : B = false := by rw [HN.out]; simp
        subst this
        go_ret
        exact ⟨rfl, hb⟩
    · have : B = false := by rw [HN.out]; simp [h32]
      subst this
      go_wp2_with fail
      go_ret
      exact ⟨rfl, Below.refl _ _⟩
end Go.Proofs.YteoleblodhgheaaDoor
