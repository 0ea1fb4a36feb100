import Derived.Test.YteoleblodhgheaaDoorTokM
import Derived.Test.YteoleblodhgheaaDoorPLawD
namespace Go.Proofs.YteoleblodhgheaaDoor
open Go.RowKit
set_option maxHeartbeats 400000
theorem app_list (a b : ByteArray) : (a ++ b).data.toList = a.data.toList ++ b.data.toList := by simp
theorem RowAt.at {base : Nat} {w : World} {g cap : Nat} {ts : List Tk.Tok} (h : RowAt base w g cap ts) (i : Nat) (t : Tk.Tok) (ht : ts[i]? = some t) :
    w.cell? ⟨g, i * 4, none⟩ = some (.int .u8 t.kind) ∧ w.cell? ⟨g, i * 4 + 1, none⟩ = some (.string ⟨t.text.toArray⟩) ∧ w.cell? ⟨g, i * 4 + 2, none⟩ = some (.int .i64 t.int) ∧ w.cell? ⟨g, i * 4 + 3, none⟩ = some (.int .i64 t.pos) := by
  obtain ⟨hi, rfl⟩ := List.getElem?_eq_some_iff.1 ht
  obtain ⟨m1, m2, m3, m4, m5⟩ := h
  exact ⟨m5 i hi 0 (by decide), m5 i hi 1 (by decide), m5 i hi 2 (by decide), m5 i hi 3 (by decide)⟩
theorem At.drew {w0 w : World} (h : At w0 w) : At w0 w.drew := ⟨h.1.drewN 1, h.2.drew⟩
theorem RowAt.drew {base : Nat} {w : World} {g cap : Nat} {ts : List Tk.Tok} (h : RowAt base w g cap ts) : RowAt base w.drew g cap ts := h
theorem ext_take (s : ByteArray) (p : Nat) : (s.extract 0 p).data.toList = s.data.toList.take p := by simp
theorem ext_drop (s : ByteArray) (p : Nat) : (s.extract p s.size).data.toList = s.data.toList.drop p := by
  rw [ByteArray.data_extract, Array.toList_extract, List.extract, List.take_of_length_le]
  rw [List.length_drop, Array.length_toList]
  exact Nat.le_refl _
theorem cuts_big (s : ByteArray) (w : World) (hE : Env w) (hs : 1000 < s.size) :
    Calls Tryd.prog 5 #[.string s] w (BoolPost w true) := by
  have HX := Lib.hid (At.refl hE)
  clear hE
  go_enter Tryd.func5, Tryd.ntmps5
  go_wp2_with ((go_at_call 8; refine (wakes_any _ HX.out.1).mono ?_; rintro e wn ⟨rfl, hb⟩; replace HX := Lib.hid (HX.out.step hb); clear hb))
  go_ret
  exact ⟨rfl, HX.out.2⟩
set_option maxRecDepth 100000 in
theorem cuts_yes (s : ByteArray) (w : World) (hE : Env w) (hs : s.size ≤ 1000) (ts : List Tk.Tok) (hl : Tk.lex s.data.toList = (ts, 0, 0)) (us : List Tk.Tok) (a : Nat) (z : Tk.Tok)
    (hl2 : Tk.lex (s.data.toList ++ [10, 59]) = (us ++ [⟨4, [59], 0, a⟩, z], 0, 0)) :
    Calls Tryd.prog 5 #[.string s] w (BoolPost w true) := by
  have C1 := lex2 s
  rw [hl] at C1
  have C2 := lex2 (s ++ ⟨#[10, 59]⟩)
  rw [app_list, show (ByteArray.mk #[10, 59]).data.toList = [10, 59] from rfl, hl2] at C2
  have K1 := Lib.hid C1
  have K2 := Lib.hid C2
  have HX := Lib.hid (At.refl hE)
  clear C1 C2 hE hl hl2
  go_enter Tryd.func5, Tryd.ntmps5
  go_wp2_with fail
  refine (K1.out w HX.out.1).mono ?_
  rintro e w1 ⟨v, rfl, hb1, hv⟩
  replace HX := Lib.hid (HX.out.step hb1)
  clear hb1 K1 hv
  go_wp2_with fail
  refine (K2.out w1 HX.out.1).mono ?_
  rintro e w2 ⟨v2, rfl, hb1, hv⟩
  replace HX := Lib.hid (HX.out.step hb1)
  clear hb1 K2
  rcases hv with ⟨rfl, h0⟩ | ⟨g, cap, rfl, hr⟩
  · simp at h0
  · obtain ⟨a0, a1, a2, a3⟩ := hr.at us.length ⟨4, [59], 0, a⟩ (by simp)
    obtain ⟨m1, m2, m3, m4, m5⟩ := hr
    simp only [List.length_append, List.length_cons, List.length_nil] at m3 m4 ⊢
    unfold maxLen at m4
    clear m5 m1
    generalize us.length = n at *
    go_wp2_with ((go_at_call 8; refine (wakes_any _ HX.out.1).mono ?_; rintro e wn ⟨rfl, hb⟩; replace HX := Lib.hid (HX.out.step hb); clear hb))
    go_ret
    exact ⟨rfl, HX.out.2⟩
set_option maxRecDepth 100000 in
set_option maxHeartbeats 4000000 in
theorem cuts_no (s : ByteArray) (w : World) (hE : Env w) (hs : s.size ≤ 1000) (p e : Nat) (hl : Tk.lex s.data.toList = ([], p, e)) (hp : p < s.size) (he : e = 2 ∨ e = 30) (us : List Tk.Tok)
    (hl2 : Tk.lex (s.data.toList.take p) = (us ++ [⟨0, [], 0, p⟩], 0, 0)) (hl3 : Tk.lex (s.data.toList.take p ++ [32, 59, 32] ++ s.data.toList.drop p) = ([], p + 3, e)) :
    Calls Tryd.prog 5 #[.string s] w (BoolPost w true) := by
  have C1 := lex2 s
  rw [hl] at C1
  have C2 : ∀ x : ByteArray, x.data.toList = s.data.toList.take p → ∀ w, Env w → Calls Tryd.prog 9 #[.string x] w (LexPost2 w (us ++ [⟨0, [], 0, p⟩], 0, 0)) := fun x hx w h => by
    have := lex2 x w h
    rw [hx, hl2] at this
    exact this
  have C3 : ∀ x : ByteArray, x.data.toList = s.data.toList.take p ++ [32, 59, 32] ++ s.data.toList.drop p → ∀ w, Env w → Calls Tryd.prog 9 #[.string x] w (LexPost2 w ([], p + 3, e)) := fun x hx w h => by
    have := lex2 x w h
    rw [hx, hl3] at this
    exact this
  have K1 := Lib.hid C1
  have K2 := Lib.hid C2
  have K3 := Lib.hid C3
  have HX := Lib.hid (At.refl hE)
  clear C1 C2 C3 hE hl hl2 hl3
  go_enter Tryd.func5, Tryd.ntmps5
  go_wp2_with fail
  refine (K1.out w HX.out.1).mono ?_
  rintro _ w1 ⟨v, rfl, hb1, hv⟩
  replace HX := Lib.hid (HX.out.step hb1)
  clear hb1 K1 hv
  have X1 := ext_take s p
  have X2 : (s.extract 0 p ++ ⟨#[32, 59, 32]⟩ ++ s.extract p s.size).data.toList = s.data.toList.take p ++ [32, 59, 32] ++ s.data.toList.drop p := by
    simp only [app_list, ext_take, ext_drop]
  have HX1 := Lib.hid X1
  have HX2 := Lib.hid X2
  clear X1 X2
  rcases he with rfl | rfl
  all_goals
    go_wp2_with fail
    refine (K2.out _ HX1.out w1 HX.out.1).mono ?_
    rintro _ w2 ⟨v2, rfl, hb1, hv⟩
    replace HX := Lib.hid (HX.out.step hb1)
    clear hb1 K2
    rcases hv with ⟨rfl, h0⟩ | ⟨g, cap, rfl, hr⟩
    · simp at h0
    · have hcap : us.length + 1 ≤ cap := by have := hr.2.2.1; simpa using this
      have hmax : us.length + 1 ≤ 9223372036854775807 := by have := hr.2.2.2.1; simpa [maxLen] using this
      have HR := Lib.hid hr
      clear hr
      go_wp2_with fail
      go_region_with (first | (go_at_call 9; refine (K3.out _ HX2.out _ HX.out.drew.1).mono ?_; rintro _ w3 ⟨v3, rfl, hb3, hv3⟩; have HX3 := Lib.hid (HX.out.drew.step hb3); have HR3 := Lib.hid (HR.out.drew.below hb3); clear hb3 hv3; have c3 := (HR3.out.at us.length ⟨0, [], 0, p⟩ (by simp)).2.2.2))
      go_wp2_with ((go_at_call 8; refine (wakes_any _ HX3.out.1).mono ?_; rintro e wn ⟨rfl, hb⟩; replace HX3 := Lib.hid (HX3.out.step hb); clear hb))
      all_goals
        go_ret
        exact ⟨rfl, HX3.out.2⟩
theorem cuts_any (s : ByteArray) (w : World) (hE : Env w) : Calls Tryd.prog 5 #[.string s] w (BoolPost w true) := by
  by_cases hs : s.size ≤ 1000
  · have hl : s.data.toList.length = s.size := by rw [Array.length_toList]; rfl
    obtain ⟨ws, r, h, h1 | ⟨c, cs, e, h1, h2, h3, h4⟩⟩ := Tk.lex_cases s.data.toList (by omega)
    · exact cuts_yes s w hE hs _ h1.2 _ _ _ (Tk.cuts_good h h1.1 (by omega))
    · obtain ⟨g1, g2⟩ := Tk.cuts_bad h h1 h2 (by omega)
      have hle := h.suffix.length_le
      have hle2 := Tk.skip_length false r
      rw [h1] at hle2
      have hpos : 0 < (c :: cs).length := by simp
      exact cuts_no s w hE hs _ e h4 (by omega) h3 _ g1 g2
  · exact cuts_big s w hE (by omega)
end Go.Proofs.YteoleblodhgheaaDoor
