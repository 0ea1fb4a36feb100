/- Two rows of words compared; TokenTells. -/
import Derived.Test.YteoleblodhgheaaDoorTokY
namespace Go.Proofs.YteoleblodhgheaaDoor
open Go.RowKit
set_option maxHeartbeats 400000
/-- A row of words, or nothing. -/
def RowV (w : World) (v : Value) (ts : List Tk.Tok) : Prop := ∃ oa cap, v = .slice oa ts.length cap ∧ (ts ≠ [] → ∃ g, oa = some ⟨g, 0, none⟩ ∧ RowAt 0 w g cap ts)
theorem rowV_of {base : Nat} {w : World} {v : Value} {ts : List Tk.Tok} (h : (v = .slice none 0 0 ∧ ts = []) ∨ ∃ g cap, v = .slice (some ⟨g, 0, none⟩) ts.length cap ∧ RowAt base w g cap ts) : RowV w v ts := by
  rcases h with ⟨rfl, rfl⟩ | ⟨g, cap, rfl, h⟩
  · exact ⟨none, 0, rfl, fun h => absurd rfl h⟩
  · exact ⟨_, cap, rfl, fun _ => ⟨g, rfl, ⟨Nat.zero_le _, h.2⟩⟩⟩
theorem RowV.below {w w' : World} {v : Value} {ts : List Tk.Tok} (h : RowV w v ts) (hb : Below w.heap.size w w') : RowV w' v ts := by
  obtain ⟨oa, cap, rfl, h⟩ := h
  refine ⟨oa, cap, rfl, fun hn => ?_⟩
  obtain ⟨g, rfl, hr⟩ := h hn
  exact ⟨g, rfl, hr.below hb⟩
set_option maxRecDepth 100000 in
set_option maxHeartbeats 4000000 in
theorem rsame_any (w : World) (v1 v2 : Value) (ts : List Tk.Tok) (h1 : RowV w v1 ts) (h2 : RowV w v2 ts) : Calls Tryd.prog 11 #[v1, v2] w (BoolPost w true) := by
  obtain ⟨oa1, c1, rfl, h1⟩ := h1
  obtain ⟨oa2, c2, rfl, h2⟩ := h2
  have hn : ts.length ≤ maxLen := by
    by_cases h : ts = []
    · rw [h]; exact Nat.zero_le _
    · obtain ⟨g, _, hr⟩ := h1 h
      exact hr.2.2.2.1
  unfold maxLen at hn
  have H1 := Lib.hid h1
  have H2 := Lib.hid h2
  clear h1 h2
  have HB0 := Lib.hid (Below.refl w.heap.size w)
  obtain ⟨n, hnn⟩ : ∃ n, n = ts.length := ⟨_, rfl⟩
  rw [← hnn] at hn ⊢
  have HN := Lib.hid hnn.symm
  clear hnn
  have W0 : ∃ nq, w = w.drewN nq := ⟨0, rfl⟩
  have HW0 := Lib.hid W0
  clear W0
  go_enter Tryd.func11, Tryd.ntmps11
  go_wp2_with fail
  go_loopg [5] (n + 1) (fun m i wr => ∃ j : Nat, j ≤ n ∧ n - j < m ∧ i = .int .i64 j ∧ Hid (∃ nq, wr = w.drewN nq))
  case atStart => exact ⟨0, by omega, by omega, rfl, HW0.out⟩
  case round =>
    clear HW0 HB0
    obtain ⟨j, hj, hm, rfl, HD⟩ := hrel
    by_cases hlt : j < n
    · have hjT : j < ts.length := by rw [HN.out]; exact hlt
      have hne : ts ≠ [] := by intro e; rw [e] at hjT; simp at hjT
      obtain ⟨g1, rfl, hr1⟩ := H1.out hne
      obtain ⟨g2, rfl, hr2⟩ := H2.out hne
      obtain ⟨x, hx⟩ : ∃ x, ts[j]? = some x := ⟨_, List.getElem?_eq_getElem hjT⟩
      obtain ⟨a0, a1, a2, a3⟩ := hr1.at j x hx
      obtain ⟨b0, b1, b2, b3⟩ := hr2.at j x hx
      have m1 : n ≤ c1 := by rw [← HN.out]; exact hr1.2.2.1
      have m2 : n ≤ c2 := by rw [← HN.out]; exact hr2.2.2.1
      clear hr1 hr2 hx hne hjT
      have hcell : ∀ p, wr.cell? p = w.cell? p := by obtain ⟨nq0, e⟩ := HD.out; intro p; rw [e]; rfl
      rw [← hcell] at a0
      rw [← hcell] at a1
      rw [← hcell] at a2
      rw [← hcell] at a3
      rw [← hcell] at b0
      rw [← hcell] at b1
      rw [← hcell] at b2
      rw [← hcell] at b3
      clear hcell
      obtain ⟨xk, xt, xi, xp⟩ := x
      go_wp2_with fail
      refine wp_region_quiet_lit (by kernel_rfl) (by kernel_rfl) ?_
      repeat (any_goals (first | go_big_quiet_step (fail) | quiet_step (fail)))
      refine wpQuiet_nil ?_
      intro _ hw'
      obtain ⟨nq, hw''⟩ := hw'
      subst hw''
      clear a0 a1 a2 a3 b0 b1 b2 b3
      go_wp2_with fail
      go_roundg (gk - 1)
      case measure => omega
      case rel => exact ⟨j + 1, by omega, by omega, by push_cast; rfl, by obtain ⟨nq0, e⟩ := HD.out; exact ⟨nq0 + nq, by rw [e, World.drewN_drewN]⟩⟩
    · obtain rfl : j = n := by omega
      go_wp2_with fail
      go_ret
      obtain ⟨nq0, hq⟩ := HD.out
      exact ⟨rfl, by rw [hq]; exact pw_drewN (Below.refl _ _) _⟩
theorem rlex2 (s : ByteArray) (w : World) : Calls Tryd.prog 10 #[.string s] w (LexPost2 w (Tk.lex s.data.toList)) :=
  (rlex_any s w).mono fun _ _ ⟨v, he, ho, hb⟩ => ⟨v, he, hb, row_of ho⟩
set_option maxRecDepth 100000 in
set_option maxHeartbeats 4000000 in
theorem tells_any (s : ByteArray) (w : World) (hE : Env w) : Calls Tryd.prog 3 #[.string s] w (BoolPost w true) := by
  have HX := Lib.hid (At.refl hE)
  clear hE
  by_cases hs : 8192 < s.size
  · go_enter Tryd.func3, Tryd.ntmps3
    go_wp2_with ((go_at_call 8; refine (wakes_any _ HX.out.1).mono ?_; rintro e wn ⟨rfl, hb⟩; replace HX := Lib.hid (HX.out.step hb); clear hb))
    go_ret
    exact ⟨rfl, HX.out.2⟩
  · have C1 := Lib.hid (lex2 s)
    have C2 := Lib.hid (rlex2 s)
    generalize Tk.lex s.data.toList = R at *
    obtain ⟨ts, p, e⟩ := R
    have C3 := Lib.hid (reserved_any s)
    have C4 := Lib.hid (rreserved_any s)
    have C5 := Lib.hid (name_any s)
    have C6 := Lib.hid (rname_any s)
    generalize Tk.reserved s.data.toList = rb at *
    generalize Tk.name s.data.toList = nb at *
    go_enter Tryd.func3, Tryd.ntmps3
    go_wp2_with fail
    refine (C1.out w HX.out.1).mono ?_
    rintro _ w1 ⟨v1, rfl, hb1, hv1⟩
    replace HX := Lib.hid (HX.out.step hb1)
    go_wp2_with fail
    refine (C2.out w1).mono ?_
    rintro _ w2 ⟨v2, rfl, hb2, hv2⟩
    have HX2 := Lib.hid (HX.out.step hb2)
    have R1 := Lib.hid ((rowV_of hv1).below hb2)
    have R2 := Lib.hid (rowV_of hv2)
    clear hv1 hv2 hb1 hb2
    go_wp2_with fail
    refine (rsame_any _ v1 v2 ts R1.out R2.out).mono ?_
    rintro _ w3 ⟨rfl, hb3⟩
    have HX3 := Lib.hid (HX2.out.step hb3)
    clear hb3
    go_wp2_with fail
    refine (C3.out w3 HX3.out.1).mono ?_
    rintro _ w4 ⟨rfl, hb4⟩
    have HX4 := Lib.hid (HX3.out.step hb4)
    clear hb4
    go_wp2_with fail
    refine (C4.out w4).mono ?_
    rintro _ w5 ⟨rfl, hb5⟩
    have HX5 := Lib.hid (HX4.out.step hb5)
    clear hb5
    have hrb : (rb == rb) = true := by cases rb <;> rfl
    go_wp2_with fail
    refine (C5.out w5 HX5.out.1).mono ?_
    rintro _ w6 ⟨rfl, hb6⟩
    have HX6 := Lib.hid (HX5.out.step hb6)
    clear hb6
    go_wp2_with fail
    refine (C6.out w6).mono ?_
    rintro _ w7 ⟨rfl, hb7⟩
    have HX7 := Lib.hid (HX6.out.step hb7)
    clear hb7
    have hnb : (nb == nb) = true := by cases nb <;> rfl
    go_wp2_with fail
    refine (wakes_any _ HX7.out.1).mono ?_
    rintro _ w8 ⟨rfl, hb8⟩
    have HX8 := Lib.hid (HX7.out.step hb8)
    clear hb8
    go_wp2_with fail
    go_ret
    exact ⟨rfl, HX8.out.2⟩
end Go.Proofs.YteoleblodhgheaaDoor
