import Derived.Test.YteoleblodhgheaaDoorTokK
namespace Go.Proofs.YteoleblodhgheaaDoor
open Go.RowKit
set_option maxHeartbeats 400000
theorem lexW1 : Tk.lex [83, 69, 76, 69, 67, 84, 32, 97, 49, 44, 45, 45, 32, 120] = ([⟨1, [115, 101, 108, 101, 99, 116], 0, 0⟩, ⟨1, [97, 49], 0, 7⟩, ⟨4, [44], 0, 9⟩, ⟨0, [], 0, 14⟩], 0, 0) := by decide +kernel
theorem lexW2 : Tk.lex [39, 105, 116, 39, 39, 115, 39, 60, 62, 49, 50] = ([⟨3, [105, 116, 39, 115], 0, 0⟩, ⟨4, [60, 62], 0, 7⟩, ⟨2, [], 12, 9⟩, ⟨0, [], 0, 11⟩], 0, 0) := by decide +kernel
theorem lexW3 : Tk.lex [97, 32, 35] = ([], 2, 30) := by decide +kernel
theorem resW : Tk.reserved [102, 114, 111, 109] = true := by decide +kernel
theorem nameW : Tk.name [116, 105, 109, 101] = true := by decide +kernel
/-- Lex at a text whose words are known. -/
theorem lex_row (s : ByteArray) (t : Tk.Tok) (ts : List Tk.Tok) (a e : Nat) (h : Tk.lex s.data.toList = (t :: ts, a, e)) (w : World) (hE : Env w) :
    Calls Tryd.prog 9 #[.string s] w fun en w' => ∃ g cap, en = .returned (.tuple #[.slice (some ⟨g, 0, none⟩) (t :: ts).length cap, .int .i64 a, .int .i64 e]) ∧ Below w.heap.size w w' ∧ RowAt w.heap.size w' g cap (t :: ts) := by
  refine (lex2 s w hE).mono fun en w' ⟨v, he, hb, hv⟩ => ?_
  rw [h] at he hv
  rcases hv with ⟨_, h0⟩ | ⟨g, cap, rfl, hr⟩
  · cases h0
  · exact ⟨g, cap, he, hb, hr⟩
theorem lex_no (s : ByteArray) (a e : Nat) (h : Tk.lex s.data.toList = ([], a, e)) (w : World) (hE : Env w) :
    Calls Tryd.prog 9 #[.string s] w fun en w' => ∃ v, en = .returned (.tuple #[v, .int .i64 a, .int .i64 e]) ∧ Below w.heap.size w w' := by
  refine (lex2 s w hE).mono fun en w' ⟨v, he, hb, hv⟩ => ?_
  rw [h] at he
  exact ⟨v, he, hb⟩
set_option maxRecDepth 100000 in
theorem wakes_any (w : World) (hE : Env w) : Calls Tryd.prog 8 #[] w (BoolPost w true) := by
  have C1 := lex_row ⟨#[83, 69, 76, 69, 67, 84, 32, 97, 49, 44, 45, 45, 32, 120]⟩ _ _ _ _ lexW1
  have C2 := lex_row ⟨#[39, 105, 116, 39, 39, 115, 39, 60, 62, 49, 50]⟩ _ _ _ _ lexW2
  have C3 := lex_no ⟨#[97, 32, 35]⟩ _ _ lexW3
  have C4 : ∀ w, Env w → Calls Tryd.prog 12 #[.string ⟨#[102, 114, 111, 109]⟩] w (BoolPost w true) := fun w h => by have := reserved_any ⟨#[102, 114, 111, 109]⟩ w h; rw [show (Tk.reserved (ByteArray.mk #[102, 114, 111, 109]).data.toList) = true from resW] at this; exact this
  have C5 : ∀ w, Env w → Calls Tryd.prog 14 #[.string ⟨#[116, 105, 109, 101]⟩] w (BoolPost w true) := fun w h => by have := name_any ⟨#[116, 105, 109, 101]⟩ w h; rw [show (Tk.name (ByteArray.mk #[116, 105, 109, 101]).data.toList) = true from nameW] at this; exact this
  have K1 := Lib.hid C1
  have K2 := Lib.hid C2
  have K3 := Lib.hid C3
  have K4 := Lib.hid C4
  have K5 := Lib.hid C5
  have HE := Lib.hid hE
  clear C1 C2 C3 C4 C5 hE
  go_enter Tryd.func8, Tryd.ntmps8
  go_wp2_with fail
  refine (K1.out w HE.out).mono ?_
  rintro e w1 ⟨g1, c1, rfl, hb1, hr1⟩
  go_wp2_with fail
  refine (K2.out w1 (HE.out.below hb1)).mono ?_
  rintro e w2 ⟨g2, c2, rfl, hb2, hr2⟩
  have hr1 := hr1.below hb2
  have hb2 := hb1.trans (hb2.mono hb1.size)
  go_wp2_with fail
  refine (K3.out w2 (HE.out.below hb2)).mono ?_
  rintro e w3 ⟨v, rfl, hb3⟩
  have hr1 := hr1.below hb3
  have hr2 := hr2.below hb3
  have hb3 := hb2.trans (hb3.mono hb2.size)
  obtain ⟨m1, m2, m3, m4, m5⟩ := hr1
  obtain ⟨n1, n2, n3, n4, n5⟩ := hr2
  have a1 := m5 0 (by decide) 1 (by decide)
  have a2 := m5 1 (by decide) 1 (by decide)
  have a3 := m5 3 (by decide) 0 (by decide)
  have a4 := m5 3 (by decide) 3 (by decide)
  have b1 := n5 0 (by decide) 1 (by decide)
  have b2 := n5 2 (by decide) 2 (by decide)
  simp [tokCells1] at a1 a2 a3 a4 b1 b2
  clear m5 n5 m4 n4
  go_wp2_with fail
  refine (K4.out w3 (HE.out.below hb3)).mono ?_
  rintro e w4 ⟨rfl, hb4⟩
  have hb4 := hb3.trans (hb4.mono hb3.size)
  go_wp2_with fail
  refine (K5.out w4 (HE.out.below hb4)).mono ?_
  rintro e w5 ⟨rfl, hb5⟩
  have hb5 := hb4.trans (hb5.mono hb4.size)
  go_wp2_with fail
  go_ret
  exact ⟨rfl, hb5⟩
end Go.Proofs.YteoleblodhgheaaDoor
