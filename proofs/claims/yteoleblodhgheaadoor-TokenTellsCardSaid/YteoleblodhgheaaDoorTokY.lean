/- The reference's words; two rows of words compared. -/
import Derived.Test.YteoleblodhgheaaDoorTokX
namespace Go.Proofs.YteoleblodhgheaaDoor
open Go.RowKit
set_option maxHeartbeats 400000
structure RLexAt (w : World) (acc : List Tk.Tok) (v : Value) (wr : World) : Prop where
  own : wr.ownsRow w.heap.size 31 4 v acc.length (tokCells acc)
  below : Below w.heap.size w wr
theorem RLexAt.more {w : World} {acc : List Tk.Tok} {v : Value} {wr w1 : World} (h : RLexAt w acc v wr) (hb : Below wr.heap.size wr w1) : RLexAt w acc v w1 :=
  ⟨own_keep h.own (fun i h1 h2 => hb.block i h2), h.below.trans (hb.mono h.below.size)⟩
theorem RLexAt.alloc {w : World} {acc : List Tk.Tok} {v : Value} {wr : World} (h : RLexAt w acc v wr) (o : Obj) : RLexAt w acc v (wr.alloc o) := h.more ((Below.refl _ _).alloc (Nat.le_refl _) _)
theorem RLexAt.grown {w : World} {acc acc' : List Tk.Tok} {v v' : Value} {wr w1 : World} (h : RLexAt w acc v wr) (ho : w1.ownsRow w.heap.size 31 4 v' acc'.length (tokCells acc')) (hg : wr.grownBy w1 v.ownBlock) : RLexAt w acc' v' w1 :=
  ⟨ho, h.below.grown hg h.below.size (fun i hi => own_ge h.own i hi)⟩
set_option maxRecDepth 100000 in
set_option maxHeartbeats 4000000 in
theorem rlex_short (s : ByteArray) (w : World) (hl : s.size ≤ 4096) :
    Calls Tryd.prog 10 #[.string s] w (LexPost w (Tk.lex s.data.toList)) := by
  have hsz : s.data.toList.length = s.size := by rw [Array.length_toList]; rfl
  have hR : Tk.lex s.data.toList = Tk.lexAcc s.size (s.size + 1) [] (Tk.skip false s.data.toList) := by unfold Tk.lex; rw [if_neg (by omega), hsz]
  rw [hR]
  clear hR
  obtain ⟨i0, hi0, hz0, hz1, hz2⟩ := info_parts Tryd.infoTok
  generalize hRR : Tk.lexAcc s.size (s.size + 1) [] (Tk.skip false s.data.toList) = R
  have HR := Lib.hid hRR
  have HSZ := Lib.hid hsz
  clear hRR hsz
  have S0 := Lib.hid (rblank_any s 0 (by omega) (by omega) w)
  have hk0 : Tk.skipAt s.data.toList 0 ≤ s.size := by have := Tk.skipAt_le s.data.toList 0; rw [HSZ.out] at this; exact this
  have HD0 := Lib.hid (Tk.skipAt_drop s.data.toList 0)
  have H0 := Lib.hid (show RLexAt w [] (.slice none 0 0) w from ⟨own_none _ _ _ _, Below.refl _ _⟩)
  go_enter Tryd.func10, Tryd.ntmps10
  go_wp2_with (go_at_call 19; refine S0.out.mono ?_; rintro e w1 ⟨rfl, hw1⟩; obtain rfl := hw1.symm)
  go_loopg [5, 6] (s.size + 1) (fun n v i wr => ∃ (k : Nat) (acc : List Tk.Tok) (f : Nat), k ≤ s.size ∧ s.size - k < n ∧ s.size - k < f ∧ acc.length ≤ k ∧ i = .int .i64 k ∧ Hid (RLexAt w acc v wr) ∧ Hid (Tk.lexAcc s.size f acc (s.data.toList.drop k) = R))
  case atStart => exact ⟨Tk.skipAt s.data.toList 0, [], s.size + 1, hk0, by omega, by omega, by simp, rfl, H0.out, by rw [HD0.out]; exact HR.out⟩
  case round =>
    clear H0 HR S0 HD0
    obtain ⟨k, acc, f, hk, hn, hf, hacc, rfl, HL, HR⟩ := hrel
    by_cases hlt : k < s.size
    · obtain ⟨f, rfl⟩ : ∃ g, f = g + 1 := ⟨f - 1, by omega⟩
      have N := rone_any s k hlt (by omega) wr
      have hRn : R = match Tk.next (s.data.toList.drop k) with
          | .error e => ([], s.size - (s.data.toList.drop k).length, e)
          | .ok (kd, t, i, r) => Tk.lexAcc s.size f (acc ++ [⟨kd, t, i, s.size - (s.data.toList.drop k).length⟩]) (Tk.skip false r) := by
        rw [← HR.out, drop_at s k hlt]
        rfl
      have hkk : s.size - (s.data.toList.drop k).length = k := by rw [List.length_drop, HSZ.out]; omega
      rw [hkk] at hRn
      have hlen := Tk.next_length (s.data.toList.drop k)
      cases hN : Tk.next (s.data.toList.drop k) with
      | error e =>
        rw [hN] at N hRn
        subst hRn
        have N2 := Lib.hid (show Calls Tryd.prog 20 #[.string s, .int .i64 k] wr (fun e' w' => e' = .returned (.tuple #[.agg #[.int .u8 0, .string ⟨#[]⟩, .int .i64 0, .int .i64 0], .int .i64 0, .int .i64 (e : Int)]) ∧ Below wr.heap.size wr w') from N.mono fun _ _ h => h)
        have he := Tk.next_err _ _ hN
        clear HR hlen hN hkk N
        rcases he with rfl | rfl
        all_goals
          go_wp2_with (go_at_call 20; refine N2.out.mono ?_; rintro e w1 ⟨rfl, hu⟩; have HL1 := Lib.hid ((HL.out.more hu).alloc (.cells #[.int .u8 0, .string ⟨#[]⟩, .int .i64 0, .int .i64 0] 31)); clear hu)
          go_ret3
          exact ⟨_, rfl, own_none _ _ _ _, HL1.out.below⟩
      | ok x =>
        obtain ⟨kd, t, i, r⟩ := x
        rw [hN] at N hRn
        have hlen2 := hlen _ _ _ _ hN
        have hsuf := List.suffix_iff_eq_drop.1 (Tk.next_suffix _ _ _ _ _ hN)
        rw [List.length_drop, HSZ.out, List.drop_drop] at hsuf
        rw [List.length_drop, HSZ.out] at hlen2
        have hk1 : k + (s.size - k - r.length) = s.size - r.length := by omega
        rw [hk1] at hsuf
        clear hk1
        have N2 : Calls Tryd.prog 20 #[.string s, .int .i64 k] wr (fun e' w' => e' = .returned (.tuple #[.agg #[.int .u8 (kd : Int), .string ⟨t.toArray⟩, .int .i64 i, .int .i64 (k : Int)], .int .i64 ((s.size - r.length : Nat) : Int), .int .i64 0]) ∧ Below wr.heap.size wr w') := N.mono fun _ _ h => h
        generalize hk1 : s.size - r.length = k1 at N2 hsuf
        have hk1le : k1 ≤ s.size := by omega
        have hkk1 : k < k1 := by omega
        have hRn2 : R = Tk.lexAcc s.size f (acc ++ [⟨kd, t, i, k⟩]) (s.data.toList.drop (Tk.skipAt s.data.toList k1)) := by rw [Tk.skipAt_drop, ← hsuf]; exact hRn
        have hsk : Tk.skipAt s.data.toList k1 ≤ s.size := by have := Tk.skipAt_le s.data.toList k1; rw [HSZ.out] at this; exact this
        have hsk2 := Tk.skipAt_ge s.data.toList k1 (by rw [HSZ.out]; exact hk1le)
        have HRN := Lib.hid hRn2
        have NN := Lib.hid N2
        clear HR hlen hN hkk N N2 hsuf hRn hRn2 hk1 hlen2
        have HS1 := Lib.hid (fun wx : World => rblank_any s k1 hk1le (by omega) wx)
        go_wp2_with (first
          | (go_at_call 20; refine NN.out.mono ?_; rintro e w1 ⟨rfl, hu⟩; have HL1 := Lib.hid (HL.out.more hu); clear hu)
          | (go_at_call 19; refine (HS1.out _).mono ?_; rintro e w3 ⟨rfl, rfl⟩)
          | (at_builtin; refine wpList_append_own _ rfl _ _ 23 rfl w.heap.size 31 i0 _ 4 40 Tryd.underlying23 hi0 hz0 hz1 hz2 rfl (by decide) _ _ _ rfl ((HL1.out.alloc _).alloc _).own ⟨w1.heap.size + 1, 0, none⟩ 1 1 (tokCells1 ⟨kd, t, i, k⟩) rfl rfl ?c1 ?c2 ?c3 ?c4 ?c5 ?_; (case c1 => exact news_tok ⟨kd, t, i, k⟩ (alloc_now2 w1 _ _)); (case c2 => simp [tokCells1, Value.oneCell']); (case c3 => unfold maxLen; omega); (case c4 => omega); (case c5 => have := HL1.out.below.size; simp; omega); intro v' w2 hown' hgrow _; have HL2 := Lib.hid (RLexAt.grown (acc' := acc ++ [⟨kd, t, i, k⟩]) ((HL1.out.alloc _).alloc _) (by rw [List.length_append, tokCells_snoc]; exact hown') hgrow); clear hown' hgrow))
        go_roundg (gk - 1)
        case measure => omega
        case rel => exact ⟨Tk.skipAt s.data.toList k1, acc ++ [(⟨kd, t, i, k⟩ : Tk.Tok)], f, hsk, by omega, by omega, by simp; omega, rfl, HL2.out, HRN.out.symm⟩
    · obtain rfl : k = s.size := by omega
      obtain ⟨f, rfl⟩ : ∃ g, f = g + 1 := ⟨f - 1, by omega⟩
      have hR := HR.out
      rw [drop_end] at hR
      have hR2 : (acc ++ [⟨0, [], 0, s.size⟩], 0, 0) = R := hR
      subst hR2
      clear HR hR
      go_wp2_with (at_builtin; refine wpList_append_own _ rfl _ _ 23 rfl w.heap.size 31 i0 _ 4 40 Tryd.underlying23 hi0 hz0 hz1 hz2 rfl (by decide) _ _ _ rfl (HL.out.alloc _).own ⟨wr.heap.size, 0, none⟩ 1 1 (tokCells1 ⟨0, [], 0, s.size⟩) rfl rfl ?c1 ?c2 ?c3 ?c4 ?c5 ?_; (case c1 => exact news_tok ⟨0, [], 0, s.size⟩ (alloc_now wr _)); (case c2 => simp [tokCells1, Value.oneCell']); (case c3 => unfold maxLen; omega); (case c4 => omega); (case c5 => have := HL.out.below.size; simp; omega); intro v' w2 hown' hgrow _; have HL2 := Lib.hid (RLexAt.grown (acc' := acc ++ [⟨0, [], 0, s.size⟩]) (HL.out.alloc _) (by rw [List.length_append, tokCells_snoc]; exact hown') hgrow); clear hown' hgrow)
      go_ret3
      exact ⟨v', rfl, HL2.out.own, HL2.out.below⟩
theorem rlex_any (s : ByteArray) (w : World) : Calls Tryd.prog 10 #[.string s] w (LexPost w (Tk.lex s.data.toList)) := by
  by_cases h : s.size ≤ 4096
  · exact rlex_short s w h
  · have hR : Tk.lex s.data.toList = ([], 0, 2) := by unfold Tk.lex; rw [if_pos (by rw [Array.length_toList]; show 4096 < s.size; omega)]
    rw [hR]
    go_enter Tryd.func10, Tryd.ntmps10
    go_wp2_with fail
    go_ret3
    exact ⟨_, rfl, own_none _ _ _ _, Below.refl _ _⟩
end Go.Proofs.YteoleblodhgheaaDoor
