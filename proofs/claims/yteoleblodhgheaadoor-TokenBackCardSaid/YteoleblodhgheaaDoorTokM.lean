import Derived.Test.YteoleblodhgheaaDoorTokL
import Derived.Test.YteoleblodhgheaaDoorPLawA
namespace Go.Proofs.YteoleblodhgheaaDoor
open Go.RowKit
set_option maxHeartbeats 400000
/-- What holds all along: the tables, and nothing that was there is turned. -/
def At (w0 w : World) : Prop := Env w ∧ Below w0.heap.size w0 w
theorem At.refl {w : World} (h : Env w) : At w w := ⟨h, Below.refl _ _⟩
theorem At.step {w0 w w1 : World} (h : At w0 w) (hb : Below w.heap.size w w1) : At w0 w1 := ⟨h.1.below hb, h.2.trans (hb.mono h.2.size)⟩
/-- The first word's cells. -/
theorem RowAt.head {base : Nat} {w : World} {g cap : Nat} {t : Tk.Tok} {ts : List Tk.Tok} (h : RowAt base w g cap (t :: ts)) :
    w.cell? ⟨g, 0, none⟩ = some (.int .u8 t.kind) ∧ w.cell? ⟨g, 1, none⟩ = some (.string ⟨t.text.toArray⟩) ∧ w.cell? ⟨g, 2, none⟩ = some (.int .i64 t.int) ∧ w.cell? ⟨g, 3, none⟩ = some (.int .i64 t.pos) := by
  obtain ⟨m1, m2, m3, m4, m5⟩ := h
  have a0 := m5 0 (by simp) 0 (by decide)
  have a1 := m5 0 (by simp) 1 (by decide)
  have a2 := m5 0 (by simp) 2 (by decide)
  have a3 := m5 0 (by simp) 3 (by decide)
  simp [tokCells1] at a0 a1 a2 a3
  exact ⟨a0, a1, a2, a3⟩
theorem bytes_self (s : ByteArray) : (⟨s.data.toList.toArray⟩ : ByteArray) = s := by simp
set_option maxRecDepth 100000 in
theorem names_yes (s : ByteArray) (w : World) (hE : Env w) (hs : s.size ≤ 100) (hpos : 0 < s.size) (hw : Tk.oneWord s.data.toList (Tk.lex s.data.toList)) (hn : Tk.name s.data.toList = !Tk.reserved s.data.toList) :
    Calls Tryd.prog 6 #[.string s] w (BoolPost w true) := by
  have C1 := lex2 s
  have C2 := reserved_any s
  have C3 := name_any s
  obtain ⟨x, a, hR⟩ := hw
  rw [hR] at C1
  rw [hn] at C3
  generalize Tk.reserved s.data.toList = rs at *
  have K1 := Lib.hid C1
  have K2 := Lib.hid C2
  have K3 := Lib.hid C3
  have HX := Lib.hid (At.refl hE)
  clear C1 C2 C3 hE hR hn
  go_enter Tryd.func6, Tryd.ntmps6
  go_wp2_with fail
  refine (K1.out w HX.out.1).mono ?_
  rintro e w1 ⟨v, rfl, hb1, hv⟩
  replace HX := Lib.hid (HX.out.step hb1)
  clear hb1 K1
  rcases hv with ⟨rfl, h0⟩ | ⟨g, cap, rfl, hr⟩
  · cases h0
  · obtain ⟨m1, m2, m3, m4, m5⟩ := id hr
    have m3 : 2 ≤ cap := m3
    obtain ⟨a0, a1, a2, a3⟩ := hr.head
    rw [bytes_self] at a1
    clear m4 m5 hr
    cases rs
    all_goals
      go_wp2_with (first
        | (go_at_call 14; refine (K3.out _ HX.out.1).mono ?_; rintro e wn ⟨rfl, hb⟩; replace HX := Lib.hid (HX.out.step hb); clear hb)
        | (go_at_call 12; refine (K2.out _ HX.out.1).mono ?_; rintro e wn ⟨rfl, hb⟩; replace HX := Lib.hid (HX.out.step hb); clear hb)
        | (go_at_call 8; refine (wakes_any _ HX.out.1).mono ?_; rintro e wn ⟨rfl, hb⟩; replace HX := Lib.hid (HX.out.step hb); clear hb))
      go_ret
      exact ⟨rfl, HX.out.2⟩
set_option maxRecDepth 100000 in
theorem names_no (s : ByteArray) (w : World) (hE : Env w) (hs : s.size ≤ 100) (hw : ¬ Tk.oneWord s.data.toList (Tk.lex s.data.toList)) (hn : Tk.name s.data.toList = false) (hr : Tk.reserved s.data.toList = false) :
    Calls Tryd.prog 6 #[.string s] w (BoolPost w true) := by
  have C1 := lex2 s
  have C2 := reserved_any s
  have C3 := name_any s
  rw [hr] at C2
  rw [hn] at C3
  generalize Tk.lex s.data.toList = R at *
  obtain ⟨ts, at', er⟩ := R
  have K1 := Lib.hid C1
  have K2 := Lib.hid C2
  have K3 := Lib.hid C3
  have HX := Lib.hid (At.refl hE)
  clear C1 C2 C3 hE hn hr
  go_enter Tryd.func6, Tryd.ntmps6
  go_wp2_with fail
  refine (K1.out w HX.out.1).mono ?_
  rintro e w1 ⟨v, rfl, hb1, hv⟩
  replace HX := Lib.hid (HX.out.step hb1)
  clear hb1 K1
  have HW := Lib.hid hw
  clear hw
  by_cases he : er = 0
  · subst he
    rcases hv with ⟨rfl, h0⟩ | ⟨g, cap, rfl, hr⟩
    · clear HW h0
      go_wp2_with (first
        | (go_at_call 14; refine (K3.out _ HX.out.1).mono ?_; rintro e wn ⟨rfl, hb⟩; replace HX := Lib.hid (HX.out.step hb); clear hb)
        | (go_at_call 12; refine (K2.out _ HX.out.1).mono ?_; rintro e wn ⟨rfl, hb⟩; replace HX := Lib.hid (HX.out.step hb); clear hb)
        | (go_at_call 8; refine (wakes_any _ HX.out.1).mono ?_; rintro e wn ⟨rfl, hb⟩; replace HX := Lib.hid (HX.out.step hb); clear hb))
      go_ret
      exact ⟨rfl, HX.out.2⟩
    · match ts, HW, hr with
      | [t, x], HW, hr =>
        have m3 : 2 ≤ cap := hr.2.2.1
        obtain ⟨a0, a1, a2, a3⟩ := hr.head
        have hne : ¬ (t.kind = 1 ∧ t.text = s.toList ∧ t.int = 0 ∧ t.pos = 0) := by
          rintro ⟨h1, h2, h3, h4⟩
          refine HW.out ⟨x, at', ?_⟩
          obtain ⟨k, tx, i, p⟩ := t
          simp only at h1 h2 h3 h4
          subst h1 h2 h3 h4
          rw [ByteArray.toList_eq]
        obtain ⟨k, tx, i, p⟩ := t
        simp only at a0 a1 a2 a3 hne
        clear HW hr
        go_wp2_with (first
          | (go_at_call 14; refine (K3.out _ HX.out.1).mono ?_; rintro e wn ⟨rfl, hb⟩; replace HX := Lib.hid (HX.out.step hb); clear hb)
          | (go_at_call 12; refine (K2.out _ HX.out.1).mono ?_; rintro e wn ⟨rfl, hb⟩; replace HX := Lib.hid (HX.out.step hb); clear hb)
          | (go_at_call 8; refine (wakes_any _ HX.out.1).mono ?_; rintro e wn ⟨rfl, hb⟩; replace HX := Lib.hid (HX.out.step hb); clear hb))
        all_goals first
          | (exfalso; apply hne; refine ⟨by omega, by assumption, by omega, by omega⟩)
          | (go_ret; exact ⟨rfl, HX.out.2⟩)
      | [], HW, hr =>
        clear HW
        go_wp2_with (first
          | (go_at_call 14; refine (K3.out _ HX.out.1).mono ?_; rintro e wn ⟨rfl, hb⟩; replace HX := Lib.hid (HX.out.step hb); clear hb)
          | (go_at_call 12; refine (K2.out _ HX.out.1).mono ?_; rintro e wn ⟨rfl, hb⟩; replace HX := Lib.hid (HX.out.step hb); clear hb)
          | (go_at_call 8; refine (wakes_any _ HX.out.1).mono ?_; rintro e wn ⟨rfl, hb⟩; replace HX := Lib.hid (HX.out.step hb); clear hb))
        go_ret
        exact ⟨rfl, HX.out.2⟩
      | [x], HW, hr =>
        clear HW
        go_wp2_with (first
          | (go_at_call 14; refine (K3.out _ HX.out.1).mono ?_; rintro e wn ⟨rfl, hb⟩; replace HX := Lib.hid (HX.out.step hb); clear hb)
          | (go_at_call 12; refine (K2.out _ HX.out.1).mono ?_; rintro e wn ⟨rfl, hb⟩; replace HX := Lib.hid (HX.out.step hb); clear hb)
          | (go_at_call 8; refine (wakes_any _ HX.out.1).mono ?_; rintro e wn ⟨rfl, hb⟩; replace HX := Lib.hid (HX.out.step hb); clear hb))
        go_ret
        exact ⟨rfl, HX.out.2⟩
      | x :: y :: z :: r, HW, hr =>
        clear HW
        have h3 : 2 < (x :: y :: z :: r).length := by simp
        generalize (x :: y :: z :: r).length = n at *
        go_wp2_with (first
          | (go_at_call 14; refine (K3.out _ HX.out.1).mono ?_; rintro e wn ⟨rfl, hb⟩; replace HX := Lib.hid (HX.out.step hb); clear hb)
          | (go_at_call 12; refine (K2.out _ HX.out.1).mono ?_; rintro e wn ⟨rfl, hb⟩; replace HX := Lib.hid (HX.out.step hb); clear hb)
          | (go_at_call 8; refine (wakes_any _ HX.out.1).mono ?_; rintro e wn ⟨rfl, hb⟩; replace HX := Lib.hid (HX.out.step hb); clear hb))
        go_ret
        exact ⟨rfl, HX.out.2⟩
  · clear HW hv
    go_wp2_with (first
      | (go_at_call 14; refine (K3.out _ HX.out.1).mono ?_; rintro e wn ⟨rfl, hb⟩; replace HX := Lib.hid (HX.out.step hb); clear hb)
      | (go_at_call 12; refine (K2.out _ HX.out.1).mono ?_; rintro e wn ⟨rfl, hb⟩; replace HX := Lib.hid (HX.out.step hb); clear hb)
      | (go_at_call 8; refine (wakes_any _ HX.out.1).mono ?_; rintro e wn ⟨rfl, hb⟩; replace HX := Lib.hid (HX.out.step hb); clear hb))
    go_ret
    exact ⟨rfl, HX.out.2⟩
theorem names_big (s : ByteArray) (w : World) (hE : Env w) (hs : 100 < s.size) :
    Calls Tryd.prog 6 #[.string s] w (BoolPost w true) := by
  have HX := Lib.hid (At.refl hE)
  clear hE
  go_enter Tryd.func6, Tryd.ntmps6
  go_wp2_with ((go_at_call 8; refine (wakes_any _ HX.out.1).mono ?_; rintro e wn ⟨rfl, hb⟩; replace HX := Lib.hid (HX.out.step hb); clear hb))
  go_ret
  exact ⟨rfl, HX.out.2⟩
theorem names_any (s : ByteArray) (w : World) (hE : Env w) : Calls Tryd.prog 6 #[.string s] w (BoolPost w true) := by
  by_cases hs : s.size ≤ 100
  · by_cases hw : Tk.oneWord s.data.toList (Tk.lex s.data.toList)
    · obtain ⟨h1, h2⟩ := Tk.word_name _ hw
      rw [Array.length_toList] at h1
      exact names_yes s w hE hs h1 hw h2
    · refine names_no s w hE hs hw ?_ ?_
      · cases h : Tk.name s.data.toList with
        | false => rfl
        | true => exact absurd (Tk.name_word _ h) hw
      · cases h : Tk.reserved s.data.toList with
        | false => rfl
        | true => exact absurd (Tk.reserved_word _ h) hw
  · exact names_big s w hE (by omega)
end Go.Proofs.YteoleblodhgheaaDoor
