/- The reference's blanks. -/
import Derived.Test.YteoleblodhgheaaDoorTokR
namespace Go.Proofs.YteoleblodhgheaaDoor
open Go.RowKit
set_option maxHeartbeats 400000
namespace Tk
theorem skipAt_blank (l : List UInt8) (k : Nat) (hk : k < l.length) (hb : blank l[k] = true) : skipAt l (k + 1) = skipAt l k := by
  unfold skipAt
  rw [List.drop_eq_getElem_cons hk, skip, if_pos hb]
theorem skipAt_here (l : List UInt8) (k : Nat) (hk : k < l.length) (hb : blank l[k] = false) (h : ¬ (l[k] = 45 ∧ (l.drop (k + 1)).head? = some 45)) : skipAt l k = k := by
  unfold skipAt
  rw [List.drop_eq_getElem_cons hk, skip, if_neg (by simp [hb]), if_neg h, ← List.drop_eq_getElem_cons hk, List.length_drop]
  omega
theorem skipAt_end (l : List UInt8) : skipAt l l.length = l.length := by
  unfold skipAt
  rw [List.drop_eq_nil_of_le (Nat.le_refl _)]
  rfl
theorem skipAt_dashes (l : List UInt8) (k : Nat) (hk : k < l.length) (h : l[k] = 45 ∧ (l.drop (k + 1)).head? = some 45) : skipAt l (far notnl l k) = skipAt l k ∧ k < far notnl l k := by
  have hf : far blank l k = k := far_no blank l k hk (by rw [h.1]; rfl)
  have hp : [45, 45].isPrefixOf (l.drop k) = true := by
    rw [List.drop_eq_getElem_cons hk, h.1]
    cases hd : l.drop (k + 1) with
    | nil => rw [hd] at h; simp at h
    | cons y ys =>
      rw [hd] at h
      have : y = 45 := by simpa using h.2
      rw [this]
      rfl
  have := skipAt_on l k (by rw [hf]; exact hp)
  rw [hf] at this
  exact ⟨this, far_dashes l k hp⟩
end Tk
theorem blank_at {c : UInt8} : Tk.blank c = true ↔ ((c.toNat : Int) = 32 ∨ (c.toNat : Int) = 9 ∨ (c.toNat : Int) = 10 ∨ (c.toNat : Int) = 13) := by
  simp only [Tk.blank, decide_eq_true_eq]; omega
theorem get_is (s : ByteArray) (k : Nat) (h : k < s.size) : s.data.toList[k]'(by rw [Array.length_toList]; exact h) = s[k] := rfl
set_option maxRecDepth 100000 in
set_option maxHeartbeats 4000000 in
theorem rblank_any (s : ByteArray) (k0 : Nat) (hk0 : k0 ≤ s.size) (hs : s.size ≤ 140737488355328) (w : World) : Calls Tryd.prog 19 #[.string s, .int .i64 k0] w fun e w' => e = .returned (.int .i64 (Tk.skipAt s.data.toList k0)) ∧ w' = w := by
  have hl : s.data.toList.length = s.size := by rw [Array.length_toList]; rfl
  generalize hR : Tk.skipAt s.data.toList k0 = R
  have HR := Lib.hid hR
  have HL := Lib.hid hl
  clear hR hl
  go_enter Tryd.func19, Tryd.ntmps19
  go_wp2_with fail
  go_loopg [1] (s.size + 1) (fun n i wr => ∃ k : Nat, k ≤ s.size ∧ s.size - k < n ∧ i = .int .i64 k ∧ wr = w ∧ Hid (Tk.skipAt s.data.toList k = R))
  case atStart => exact ⟨k0, hk0, by omega, rfl, rfl, HR.out⟩
  case round =>
    clear HR
    obtain ⟨k, hk, hn, rfl, rfl, HI⟩ := hrel
    by_cases hlt : k < s.size
    · by_cases hb : Tk.blank s[k] = true
      · have hI := (Tk.skipAt_blank s.data.toList k (by rw [HL.out]; exact hlt) hb).trans HI.out
        have HI2 := Lib.hid hI
        rw [blank_at] at hb
        clear hI HI
        rcases hb with hb | hb | hb | hb
        all_goals
          go_wp2_with fail
          go_roundg (gk - 1)
          (case measure => omega)
          (case rel => exact ⟨k + 1, by omega, by omega, by push_cast; rfl, rfl, HI2.out⟩)
      · have hb0 : Tk.blank s[k] = false := by simpa using hb
        rw [blank_at] at hb
        have q1 : ((s[k].toNat : Int) == 32) = false := by rw [beq_eq_false_iff_ne]; omega
        have q2 : ((s[k].toNat : Int) == 9) = false := by rw [beq_eq_false_iff_ne]; omega
        have q3 : ((s[k].toNat : Int) == 10) = false := by rw [beq_eq_false_iff_ne]; omega
        have q4 : ((s[k].toNat : Int) == 13) = false := by rw [beq_eq_false_iff_ne]; omega
        clear hb
        by_cases hd : (s[k].toNat : Int) = 45
        · by_cases hk1 : k + 1 < s.size
          · by_cases hd2 : (s[k + 1].toNat : Int) = 45
            · obtain ⟨hI, hfar⟩ := Tk.skipAt_dashes s.data.toList k (by rw [HL.out]; exact hlt) ⟨byte_eq (n := 45) (by decide) hd, by
                rw [drop_at s (k + 1) hk1]
                exact congrArg some (byte_eq (n := 45) (by decide) hd2)⟩
              have HI2 := Lib.hid (hI.trans HI.out)
              have HF := Lib.hid hfar
              clear hI hfar HI
              obtain ⟨ok, hok⟩ : ∃ ok, ok = gk := ⟨_, rfl⟩
              go_wp2_with fail
              go_loopg [1] (s.size + 1) (fun n i wx => ∃ j : Nat, j ≤ s.size ∧ s.size - j < n ∧ i = .int .i64 j ∧ wx = wr ∧ Hid (Tk.far Tk.notnl s.data.toList j = Tk.far Tk.notnl s.data.toList k))
              case atStart => exact ⟨k, by omega, by omega, rfl, rfl, rfl⟩
              case round =>
                obtain ⟨j, hj, hjn, rfl, rfl, HJ⟩ := hrel
                by_cases hjl : j < s.size
                · by_cases hnl : (s[j].toNat : Int) = 10
                  · have hfj : Tk.far Tk.notnl s.data.toList j = j := Tk.far_no _ _ j (by rw [HL.out]; exact hjl) (by
                      show Tk.notnl s[j] = false
                      simp only [Tk.notnl, decide_eq_false_iff_not]; omega)
                    have hJ := hfj.symm.trans HJ.out
                    have HK := Lib.hid (show k < j by have := HF.out; omega)
                    have HI3 := HI2.out
                    rw [← hJ] at HI3
                    have HI4 := Lib.hid HI3
                    clear hfj hJ HJ HI3 HI2 HF
                    have hkj := HK.out
                    go_wp2_with fail
                    go_roundg (ok - 1)
                    case measure => omega
                    case rel => exact ⟨j, hj, by omega, rfl, rfl, HI4.out⟩
                  · have hfj : Tk.far Tk.notnl s.data.toList (j + 1) = Tk.far Tk.notnl s.data.toList j := Tk.far_yes _ _ j (by rw [HL.out]; exact hjl) (by
                      show Tk.notnl s[j] = true
                      simp only [Tk.notnl, decide_eq_true_eq]; omega)
                    have HJ2 := Lib.hid (hfj.trans HJ.out)
                    clear hfj HJ
                    go_wp2_with fail
                    go_roundg (gk - 1)
                    case measure => omega
                    case rel => exact ⟨j + 1, by omega, by omega, by push_cast; rfl, rfl, HJ2.out⟩
                · obtain rfl : j = s.size := by omega
                  have hfj : Tk.far Tk.notnl s.data.toList s.size = s.size := Tk.far_end _ _ _ (by rw [HL.out]; exact Nat.le_refl _)
                  have hJ := hfj.symm.trans HJ.out
                  have HI3 := HI2.out
                  rw [← hJ] at HI3
                  have HI4 := Lib.hid HI3
                  clear hfj hJ HJ HI3 HI2 HF
                  go_wp2_with fail
                  go_roundg (ok - 1)
                  case measure => omega
                  case rel => exact ⟨s.size, hj, by omega, rfl, rfl, HI4.out⟩
            · have hh := Tk.skipAt_here s.data.toList k (by rw [HL.out]; exact hlt) hb0 (by
                rintro ⟨_, h2⟩
                rw [drop_at s (k + 1) hk1] at h2
                exact byte_ne (n := 45) (by decide) hd2 (Option.some.inj h2))
              have hr := hh.symm.trans HI.out
              subst hr
              clear HI hh
              have q5 : ((s[k + 1].toNat : Int) != 45) = true := by simpa using hd2
              go_wp2_with fail
              go_ret
              exact ⟨rfl, rfl⟩
          · have hh := Tk.skipAt_here s.data.toList k (by rw [HL.out]; exact hlt) hb0 (by
              rintro ⟨_, h2⟩
              rw [List.drop_eq_nil_of_le (by rw [HL.out]; omega)] at h2
              simp at h2)
            have hr := hh.symm.trans HI.out
            subst hr
            clear HI hh
            go_wp2_with fail
            go_ret
            exact ⟨rfl, rfl⟩
        · have hh := Tk.skipAt_here s.data.toList k (by rw [HL.out]; exact hlt) hb0 (by
            rintro ⟨h1, _⟩
            exact byte_ne (n := 45) (by decide) hd h1)
          have hr := hh.symm.trans HI.out
          subst hr
          clear HI hh
          have q5 : ((s[k].toNat : Int) != 45) = true := by simpa using hd
          go_wp2_with fail
          go_ret
          exact ⟨rfl, rfl⟩
    · obtain rfl : k = s.size := by omega
      have hr : R = s.size := by
        have := Tk.skipAt_end s.data.toList
        rw [HL.out] at this
        exact HI.out.symm.trans this
      subst hr
      clear HI
      go_wp2_with fail
      go_ret
      exact ⟨rfl, rfl⟩
end Go.Proofs.YteoleblodhgheaaDoor
