import Derived.Test.YteoleblodhgheaaDoorTokN
namespace Go.Proofs.YteoleblodhgheaaDoor
open Go.RowKit
set_option maxHeartbeats 400000
theorem joins_big (s t : ByteArray) (w : World) (hE : Env w) (hs : 1000 < s.size ∨ (s.size ≤ 1000 ∧ 1000 < t.size)) :
    Calls Tryd.prog 7 #[.string s, .string t] w (BoolPost w true) := by
  have HX := Lib.hid (At.refl hE)
  clear hE
  rcases hs with hs | ⟨hs, ht⟩
  all_goals
    go_enter Tryd.func7, Tryd.ntmps7
    go_wp2_with ((go_at_call 8; refine (wakes_any _ HX.out.1).mono ?_; rintro e wn ⟨rfl, hb⟩; replace HX := Lib.hid (HX.out.step hb); clear hb))
    go_ret
    exact ⟨rfl, HX.out.2⟩
theorem join_list (s t : ByteArray) : (s ++ ⟨#[10]⟩ ++ t).data.toList = s.data.toList ++ 10 :: t.data.toList := by simp
set_option maxRecDepth 100000 in
set_option maxHeartbeats 4000000 in
theorem joins_first (s t : ByteArray) (w : World) (hE : Env w) (hs : s.size ≤ 1000) (ht : t.size ≤ 1000) (p e : Nat) (hl : Tk.lex s.data.toList = ([], p, e)) (he : e = 2 ∨ e = 30) :
    Calls Tryd.prog 7 #[.string s, .string t] w (BoolPost w true) := by
  have C1 := lex2 s
  rw [hl] at C1
  have K1 := Lib.hid C1
  have HX := Lib.hid (At.refl hE)
  clear C1 hE hl
  go_enter Tryd.func7, Tryd.ntmps7
  go_wp2_with fail
  refine (K1.out w HX.out.1).mono ?_
  rintro _ w1 ⟨v1, rfl, hb1, hv1⟩
  replace HX := Lib.hid (HX.out.step hb1)
  clear hb1 K1 hv1
  go_wp2_with fail
  refine (lex2 t _ HX.out.1).mono ?_
  rintro _ w2 ⟨v2, rfl, hb1, hv1⟩
  generalize Tk.lex t.data.toList = R2 at *
  replace HX := Lib.hid (HX.out.step hb1)
  clear hb1 hv1
  go_wp2_with fail
  refine (lex2 _ _ HX.out.1).mono ?_
  rintro _ w3 ⟨v3, rfl, hb1, hv1⟩
  generalize Tk.lex _ = R3 at *
  replace HX := Lib.hid (HX.out.step hb1)
  clear hb1 hv1
  rcases he with rfl | rfl
  all_goals
    go_wp2_with ((go_at_call 8; refine (wakes_any _ HX.out.1).mono ?_; rintro e wn ⟨rfl, hb⟩; replace HX := Lib.hid (HX.out.step hb); clear hb))
    go_ret
    exact ⟨rfl, HX.out.2⟩
set_option maxRecDepth 100000 in
set_option maxHeartbeats 4000000 in
theorem joins_second (s t : ByteArray) (w : World) (hE : Env w) (hs : s.size ≤ 1000) (ht : t.size ≤ 1000) (ts : List Tk.Tok) (p e : Nat) (hl : Tk.lex s.data.toList = (ts, 0, 0)) (hl2 : Tk.lex t.data.toList = ([], p, e)) (he : e = 2 ∨ e = 30) (hp : p ≤ t.size)
    (hl3 : Tk.lex (s.data.toList ++ 10 :: t.data.toList) = ([], s.size + 1 + p, e)) :
    Calls Tryd.prog 7 #[.string s, .string t] w (BoolPost w true) := by
  have C1 := lex2 s
  rw [hl] at C1
  have C2 := lex2 t
  rw [hl2] at C2
  have C3 := lex2 (s ++ ⟨#[10]⟩ ++ t)
  rw [join_list, hl3] at C3
  have K1 := Lib.hid C1
  have K2 := Lib.hid C2
  have K3 := Lib.hid C3
  have HX := Lib.hid (At.refl hE)
  clear C1 C2 C3 hE hl hl2 hl3
  go_enter Tryd.func7, Tryd.ntmps7
  go_wp2_with fail
  refine (K1.out w HX.out.1).mono ?_
  rintro _ w1 ⟨v1, rfl, hb1, hv1⟩
  replace HX := Lib.hid (HX.out.step hb1)
  clear hb1 K1 hv1
  go_wp2_with fail
  refine (K2.out w1 HX.out.1).mono ?_
  rintro _ w2 ⟨v2, rfl, hb1, hv1⟩
  replace HX := Lib.hid (HX.out.step hb1)
  clear hb1 K2 hv1
  go_wp2_with fail
  refine (K3.out w2 HX.out.1).mono ?_
  rintro _ w3 ⟨v3, rfl, hb1, hv1⟩
  replace HX := Lib.hid (HX.out.step hb1)
  clear hb1 K3 hv1
  rcases he with rfl | rfl
  all_goals
    go_wp2_with ((go_at_call 8; refine (wakes_any _ HX.out.1).mono ?_; rintro e wn ⟨rfl, hb⟩; replace HX := Lib.hid (HX.out.step hb); clear hb))
    go_ret
    exact ⟨rfl, HX.out.2⟩
set_option maxRecDepth 100000 in
set_option maxHeartbeats 4000000 in
theorem joins_both (s t : ByteArray) (w : World) (hE : Env w) (hs : s.size ≤ 1000) (ht : t.size ≤ 1000) (A : List Tk.Tok) (z : Tk.Tok) (B : List Tk.Tok) (hl : Tk.lex s.data.toList = (A ++ [z], 0, 0)) (hl2 : Tk.lex t.data.toList = (B, 0, 0)) (hB : B ≠ [])
    (hBp : ∀ x ∈ B, x.pos ≤ 1000) (hA : A.length ≤ 1000) (hBl : B.length ≤ 1001)
    (hl3 : Tk.lex (s.data.toList ++ 10 :: t.data.toList) = (A ++ B.map (Tk.move (s.size + 1)), 0, 0)) :
    Calls Tryd.prog 7 #[.string s, .string t] w (BoolPost w true) := by
  have C1 := lex2 s
  rw [hl] at C1
  have C2 := lex2 t
  rw [hl2] at C2
  have C3 := lex2 (s ++ ⟨#[10]⟩ ++ t)
  rw [join_list, hl3] at C3
  have K1 := Lib.hid C1
  have K2 := Lib.hid C2
  have K3 := Lib.hid C3
  have HX := Lib.hid (At.refl hE)
  have HBP := Lib.hid hBp
  clear C1 C2 C3 hE hl hl2 hl3 hBp
  go_enter Tryd.func7, Tryd.ntmps7
  go_wp2_with fail
  refine (K1.out w HX.out.1).mono ?_
  rintro _ w1 ⟨v1, rfl, hb1, hv1⟩
  replace HX := Lib.hid (HX.out.step hb1)
  rcases hv1 with ⟨_, h0⟩ | ⟨g1, c1, rfl, hr1⟩
  · simp at h0
  clear hb1 K1
  go_wp2_with fail
  refine (K2.out w1 HX.out.1).mono ?_
  rintro _ w2 ⟨v2, rfl, hb1, hv1⟩
  replace HX := Lib.hid (HX.out.step hb1)
  replace hr1 := hr1.below hb1
  rcases hv1 with ⟨_, h0⟩ | ⟨g2, c2, rfl, hr2⟩
  · exact absurd h0 hB
  clear hb1 K2
  go_wp2_with fail
  refine (K3.out w2 HX.out.1).mono ?_
  rintro _ w3 ⟨v3, rfl, hb1, hv1⟩
  replace HX := Lib.hid (HX.out.step hb1)
  replace hr1 := hr1.below hb1
  replace hr2 := hr2.below hb1
  rcases hv1 with ⟨_, h0⟩ | ⟨g3, c3, rfl, hr3⟩
  · exfalso
    simp at h0
    exact hB h0.2
  clear hb1 K3
  have e1 : (A ++ [z]).length = A.length + 1 := by simp
  have e3 : (A ++ B.map (Tk.move (s.size + 1))).length = A.length + B.length := by simp
  have b1 : A.length + 1 ≤ c1 := by have := hr1.2.2.1; rw [e1] at this; exact this
  have b2 : B.length ≤ c2 := hr2.2.2.1
  have b3 : A.length + B.length ≤ c3 := by have := hr3.2.2.1; rw [e3] at this; exact this
  have hB0 : 0 < B.length := List.length_pos_iff.2 hB
  simp only [e1, e3]
  have HR1 := Lib.hid hr1
  have HR2 := Lib.hid hr2
  have HR3 := Lib.hid hr3
  clear hr1 hr2 hr3 hB e1 e3
  go_wp2_with fail
  generalize hn : A.length = n at *
  generalize hm : B.length = m at *
  have HN := Lib.hid hn
  have HM := Lib.hid hm
  clear hn hm
  go_loopg [14] (n + m + 1) (fun k i wr => ∃ j : Nat, j ≤ n + m ∧ n + m - j < k ∧ i = .int .i64 j ∧ Hid (At w wr) ∧ Hid (RowAt w.heap.size wr g1 c1 (A ++ [z])) ∧ Hid (RowAt w1.heap.size wr g2 c2 B) ∧ Hid (RowAt w2.heap.size wr g3 c3 (A ++ B.map (Tk.move (s.size + 1)))))
  case atStart => exact ⟨0, by omega, by omega, rfl, HX.out, HR1.out, HR2.out, HR3.out⟩
  case round =>
    clear HX HR1 HR2 HR3
    obtain ⟨j, hj, hk, rfl, HX, HR1, HR2, HR3⟩ := hrel
    by_cases hlt : j < n
    · have hjA : j < A.length := by rw [HN.out]; exact hlt
      obtain ⟨x, hx⟩ : ∃ x, A[j]? = some x := ⟨_, List.getElem?_eq_getElem hjA⟩
      obtain ⟨a0, a1, a2, a3⟩ := HR1.out.at j x (by rw [List.getElem?_append_left hjA]; exact hx)
      obtain ⟨d0, d1, d2, d3⟩ := HR3.out.at j x (by rw [List.getElem?_append_left hjA]; exact hx)
      have l1 := HR1.out.2.1
      have l3 := HR3.out.2.1
      clear hx hjA
      obtain ⟨xk, xt, xi, xp⟩ := x
      simp only at a0 a1 a2 a3 d0 d1 d2 d3
      go_wp2_with fail
      have hb := (Below.refl wr.heap.size wr).alloc (Nat.le_refl _) (.cells #[.int .u8 xk, .string ⟨xt.toArray⟩, .int .i64 xi, .int .i64 xp] 31)
      have HX2 := Lib.hid (HX.out.step hb)
      have HR12 := Lib.hid (HR1.out.below hb)
      have HR22 := Lib.hid (HR2.out.below hb)
      have HR32 := Lib.hid (HR3.out.below hb)
      obtain ⟨e0, e1, e2, e3, _⟩ := cells4 (alloc_now wr (.cells #[.int .u8 xk, .string ⟨xt.toArray⟩, .int .i64 xi, .int .i64 xp] 31))
      rw [← hb.cell l3] at d0 d1 d2 d3
      clear a0 a1 a2 a3 HX HR1 HR2 HR3 hb l1 l3
      generalize wr.alloc (.cells #[.int .u8 xk, .string ⟨xt.toArray⟩, .int .i64 xi, .int .i64 xp] 31) = wq at *
      generalize wr.heap.size = bq at *
      go_quiet (fail)
      have HX3 : Hid (At w (wq.drewN nq)) := Lib.hid (show At w (wq.drewN nq) from ⟨HX2.out.1.drewN nq, pw_drewN HX2.out.2 nq⟩)
      have HR13 : Hid (RowAt w.heap.size (wq.drewN nq) g1 c1 (A ++ [z])) := Lib.hid HR12.out
      have HR23 : Hid (RowAt w1.heap.size (wq.drewN nq) g2 c2 B) := Lib.hid HR22.out
      have HR33 : Hid (RowAt w2.heap.size (wq.drewN nq) g3 c3 (A ++ B.map (Tk.move (s.size + 1)))) := Lib.hid HR32.out
      clear HX2 HR12 HR22 HR32 d0 d1 d2 d3 e0 e1 e2 e3
      generalize wq.drewN nq = wz at *
      go_wp2_with fail
      go_roundg (gk - 1)
      case measure => omega
      case rel => exact ⟨j + 1, by omega, by omega, by push_cast; rfl, HX3.out, HR13.out, HR23.out, HR33.out⟩
    · by_cases hlt2 : j < n + m
      · obtain ⟨q, rfl⟩ : ∃ q, j = n + q := ⟨j - n, by omega⟩
        have hqB : q < B.length := by rw [HM.out]; omega
        obtain ⟨x, hx⟩ : ∃ x, B[q]? = some x := ⟨_, List.getElem?_eq_getElem hqB⟩
        have hxp : x.pos ≤ 1000 := HBP.out x (List.mem_of_getElem? hx)
        obtain ⟨a0, a1, a2, a3⟩ := HR2.out.at q x hx
        obtain ⟨d0, d1, d2, d3⟩ := HR3.out.at (n + q) (Tk.move (s.size + 1) x) (by rw [List.getElem?_append_right (by rw [HN.out]; omega), HN.out, Nat.add_sub_cancel_left, List.getElem?_map, hx]; rfl)
        have l1 := HR2.out.2.1
        have l3 := HR3.out.2.1
        clear hx hqB
        obtain ⟨xk, xt, xi, xp⟩ := x
        simp only [Tk.move] at a0 a1 a2 a3 d0 d1 d2 d3 hxp
        have hix : ((n : Int) + (q : Int) - ((n : Int) + 1) + 1).toNat = q := by omega
        go_wp2_with fail
        have hpos : ((xp + (s.size + 1) : Nat) : Int) = (xp : Int) + s.size + 1 := by omega
        rw [hpos] at d3
        clear hpos
        have hb := (Below.refl wr.heap.size wr).alloc (Nat.le_refl _) (.cells #[.int .u8 xk, .string ⟨xt.toArray⟩, .int .i64 xi, .int .i64 ((xp : Int) + s.size + 1)] 31)
        have HX2 := Lib.hid (HX.out.step hb)
        have HR12 := Lib.hid (HR1.out.below hb)
        have HR22 := Lib.hid (HR2.out.below hb)
        have HR32 := Lib.hid (HR3.out.below hb)
        obtain ⟨e0, e1, e2, e3, _⟩ := cells4 (alloc_now wr (.cells #[.int .u8 xk, .string ⟨xt.toArray⟩, .int .i64 xi, .int .i64 ((xp : Int) + s.size + 1)] 31))
        rw [← hb.cell l3] at d0 d1 d2 d3
        clear a0 a1 a2 a3 HX HR1 HR2 HR3 hb l1 l3 hix
        generalize wr.alloc (.cells #[.int .u8 xk, .string ⟨xt.toArray⟩, .int .i64 xi, .int .i64 ((xp : Int) + s.size + 1)] 31) = wq at *
        generalize wr.heap.size = bq at *
        go_quiet (fail)
        have HX3 : Hid (At w (wq.drewN nq)) := Lib.hid (show At w (wq.drewN nq) from ⟨HX2.out.1.drewN nq, pw_drewN HX2.out.2 nq⟩)
        have HR13 : Hid (RowAt w.heap.size (wq.drewN nq) g1 c1 (A ++ [z])) := Lib.hid HR12.out
        have HR23 : Hid (RowAt w1.heap.size (wq.drewN nq) g2 c2 B) := Lib.hid HR22.out
        have HR33 : Hid (RowAt w2.heap.size (wq.drewN nq) g3 c3 (A ++ B.map (Tk.move (s.size + 1)))) := Lib.hid HR32.out
        clear HX2 HR12 HR22 HR32 d0 d1 d2 d3 e0 e1 e2 e3
        generalize wq.drewN nq = wz at *
        go_wp2_with fail
        go_roundg (gk - 1)
        case measure => omega
        case rel => exact ⟨n + q + 1, by omega, by omega, by push_cast; rfl, HX3.out, HR13.out, HR23.out, HR33.out⟩
      · obtain rfl : j = n + m := by omega
        go_wp2_with ((go_at_call 8; refine (wakes_any _ HX.out.1).mono ?_; rintro e wn ⟨rfl, hb⟩; replace HX := Lib.hid (HX.out.step hb); clear hb))
        go_ret
        exact ⟨rfl, HX.out.2⟩
theorem joins_any (s t : ByteArray) (w : World) (hE : Env w) : Calls Tryd.prog 7 #[.string s, .string t] w (BoolPost w true) := by
  by_cases hs : s.size ≤ 1000
  · by_cases ht : t.size ≤ 1000
    · have hl : s.data.toList.length = s.size := by rw [Array.length_toList]; rfl
      have hl2 : t.data.toList.length = t.size := by rw [Array.length_toList]; rfl
      obtain ⟨ws, r, h, h1 | ⟨c, cs, e, h1, h2, h3, h4⟩⟩ := Tk.lex_cases s.data.toList (by omega)
      · obtain ⟨wt, u, g, g1 | ⟨c, cs, e, g1, g2, g3, g4⟩⟩ := Tk.lex_cases t.data.toList (by omega)
        · have hj := Tk.joins_ok h h1.1 g g1.1 (by omega) (by omega)
          have n1 := h.len
          have n2 := g.len
          rw [hl] at hj
          refine joins_both s t w hE hs ht _ _ _ h1.2 g1.2 (by simp) ?_ ?_ ?_ hj
          · intro x hx
            rw [List.mem_append] at hx
            rcases hx with hx | hx
            · simp only [Tk.toks, List.mem_map] at hx
              obtain ⟨y, _, rfl⟩ := hx
              simp only [Tk.tok1]
              omega
            · rw [List.mem_singleton] at hx
              subst hx
              show t.data.toList.length ≤ 1000
              omega
          · rw [Tk.toks_length]; omega
          · rw [List.length_append, Tk.toks_length]; simp only [List.length_cons, List.length_nil]; omega
        · have hj := Tk.joins_bad h h1.1 g g1 g2 (by omega) (by omega)
          rw [hl, hl2] at hj
          rw [hl2] at g4
          exact joins_second s t w hE hs ht _ _ e h1.2 g4 g3 (by omega) hj
      · exact joins_first s t w hE hs ht _ e h4 h3
    · exact joins_big s t w hE (Or.inr ⟨hs, by omega⟩)
  · exact joins_big s t w hE (Or.inl (by omega))
end Go.Proofs.YteoleblodhgheaaDoor
