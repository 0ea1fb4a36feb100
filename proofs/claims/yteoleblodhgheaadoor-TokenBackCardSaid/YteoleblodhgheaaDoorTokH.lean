import Derived.Test.YteoleblodhgheaaDoorTokA
import Derived.Test.YteoleblodhgheaaDoorTokG
import Derived.Test.YteoleblodhgheaaDoorPTok4
import Derived.OwnWalk
namespace Go.Proofs.YteoleblodhgheaaDoor
open Go.RowKit
set_option maxHeartbeats 400000
def tokCells1 (t : Tk.Tok) : List Value := [.int .u8 t.kind, .string ⟨t.text.toArray⟩, .int .i64 t.int, .int .i64 t.pos]
def tokCells (ts : List Tk.Tok) : List Value := ts.flatMap tokCells1
theorem tokCells_snoc (ts : List Tk.Tok) (t : Tk.Tok) : tokCells (ts ++ [t]) = tokCells ts ++ tokCells1 t := by simp [tokCells]
theorem own_keep {w w1 : World} {base : Nat} {e : TypeId} {size n : Nat} {v : Value} {xs : List Value} (h : w.ownsRow base e size v n xs) (hm : ∀ k, base ≤ k → k < w.heap.size → w1.heap[k]? = w.heap[k]?) : w1.ownsRow base e size v n xs := by
  obtain ⟨h1, h2⟩ := h
  refine ⟨h1, ?_⟩
  rcases h2 with h2 | ⟨g, cap, cur, hv, hg, hh, rest⟩
  · exact Or.inl h2
  · exact Or.inr ⟨g, cap, cur, hv, hg, (hm g hg (Array.getElem?_eq_some_iff.1 hh).1).trans hh, rest⟩
theorem own_lower {w : World} {base base' : Nat} {e : TypeId} {size n : Nat} {v : Value} {xs : List Value} (h : w.ownsRow base e size v n xs) (hb : base' ≤ base) : w.ownsRow base' e size v n xs := by
  obtain ⟨h1, h2⟩ := h
  refine ⟨h1, ?_⟩
  rcases h2 with h2 | ⟨g, cap, cur, hv, hg, rest⟩
  · exact Or.inl h2
  · exact Or.inr ⟨g, cap, cur, hv, Nat.le_trans hb hg, rest⟩
theorem own_ge {w : World} {base : Nat} {e : TypeId} {size n : Nat} {v : Value} {xs : List Value} (h : w.ownsRow base e size v n xs) (k : Nat) (hk : v.ownBlock = some k) : base ≤ k := by
  rcases h.2 with ⟨rfl, _⟩ | ⟨g, cap, cur, rfl, hg, _⟩
  · simp [Value.ownBlock] at hk
  · simp only [Value.ownBlock, Option.some.injEq] at hk
    omega
theorem news_tok {w : World} {A : Nat} (x : Tk.Tok) (h : w.heap[A]? = some (.cells #[.int .u8 x.kind, .string ⟨x.text.toArray⟩, .int .i64 x.int, .int .i64 x.pos] 31 (0, 0))) :
    ∀ j u, (tokCells1 x)[j]? = some u → w.cell? ((⟨A, 0, none⟩ : Addr).add j) = some u := by
  intro j u hj
  have e : ((⟨A, 0, none⟩ : Addr).add j) = ⟨A, j, none⟩ := by unfold Addr.add; split <;> simp_all
  rw [e, blk_cell h]
  simpa [tokCells1] using hj
theorem alloc_now2 (w : World) (o o2 : Obj) : ((w.alloc o).alloc o2).heap[w.heap.size + 1]? = some o2 := by
  have := alloc_now (w.alloc o) o2
  simpa using this
/-- How the loop of Lex stands: the lexer's variable (the first new block), the words so far, and nothing else turned. -/
structure LexAt (s : ByteArray) (w : World) (k : Nat) (acc : List Tk.Tok) (v : Value) (wr : World) : Prop where
  lex : wr.heap[w.heap.size]? = some (lexObj s k)
  own : wr.ownsRow (w.heap.size + 1) 31 4 v acc.length (tokCells acc)
  below : Below w.heap.size w wr
theorem LexAt.lt {s : ByteArray} {w : World} {k : Nat} {acc : List Tk.Tok} {v : Value} {wr : World} (h : LexAt s w k acc v wr) : w.heap.size < wr.heap.size := (Array.getElem?_eq_some_iff.1 h.lex).1
theorem LexAt.upd {s : ByteArray} {w : World} {k k' : Nat} {acc : List Tk.Tok} {v : Value} {wr w1 : World} (h : LexAt s w k acc v wr) (hu : Upd w.heap.size (lexObj s k') wr w1) : LexAt s w k' acc v w1 :=
  ⟨hu.now, own_keep h.own (fun i h1 h2 => hu.block i h2 (by omega)), h.below.trans (hu.toBelow (Nat.le_refl _) (Nat.le_of_lt h.lt))⟩
theorem LexAt.more {s : ByteArray} {w : World} {k : Nat} {acc : List Tk.Tok} {v : Value} {wr w1 : World} (h : LexAt s w k acc v wr) (hb : Below wr.heap.size wr w1) : LexAt s w k acc v w1 :=
  ⟨below_keep hb h.lex, own_keep h.own (fun i h1 h2 => hb.block i h2), h.below.trans (hb.mono (Nat.le_of_lt h.lt))⟩
theorem LexAt.alloc {s : ByteArray} {w : World} {k : Nat} {acc : List Tk.Tok} {v : Value} {wr : World} (h : LexAt s w k acc v wr) (o : Obj) : LexAt s w k acc v (wr.alloc o) := h.more ((Below.refl _ _).alloc (Nat.le_refl _) _)
theorem LexAt.grown {s : ByteArray} {w : World} {k : Nat} {acc acc' : List Tk.Tok} {v v' : Value} {wr w1 : World} (h : LexAt s w k acc v wr) (ho : w1.ownsRow (w.heap.size + 1) 31 4 v' acc'.length (tokCells acc')) (hg : wr.grownBy w1 v.ownBlock) : LexAt s w k acc' v' w1 :=
  ⟨(hg.block _ h.lt (fun e => by have := own_ge h.own _ e.symm; omega)).trans h.lex, ho, h.below.grown hg (Nat.le_of_lt h.lt) (fun i hi => by have := own_ge h.own i hi; omega)⟩
theorem pw_drewN {B : Nat} {w w1 : World} (h : Below B w w1) (n : Nat) : Below B w (w1.drewN n) := ⟨h.os, h.tape, h.output, h.size, h.block⟩
/-- What Lex hands back. -/
def LexPost (w : World) (R : List Tk.Tok × Nat × Nat) (e : Ending) (w' : World) : Prop :=
  ∃ v, e = .returned (.tuple #[v, .int .i64 R.2.1, .int .i64 R.2.2]) ∧ w'.ownsRow w.heap.size 31 4 v R.1.length (tokCells R.1) ∧ Below w.heap.size w w'
theorem own_none (w : World) (base : Nat) (e : TypeId) (size : Nat) : w.ownsRow base e size (.slice none 0 0) 0 [] := ⟨by simp, Or.inl ⟨rfl, rfl⟩⟩
theorem Tryd.infoTok : (Tryd.prog.info? 31).map (fun i => (i.zero, i.size, i.bytes)) = some (some (.agg #[.int .u8 0, .string ⟨#[]⟩, .int .i64 0, .int .i64 0]), 4, 40) := by kernel_rfl
theorem lex_long (s : ByteArray) (w : World) (hl : 4096 < s.size) :
    Calls Tryd.prog 9 #[.string s] w (LexPost w (Tk.lex s.data.toList)) := by
  have hR : Tk.lex s.data.toList = ([], 0, 2) := by unfold Tk.lex; rw [if_pos (by rw [Array.length_toList]; exact hl)]
  rw [hR]
  go_enter Tryd.func9, Tryd.ntmps9
  go_wp2_with fail
  go_ret3
  exact ⟨_, rfl, own_none _ _ _ _, Below.refl _ _⟩
set_option maxRecDepth 100000 in
theorem lex_short (s : ByteArray) (w : World) (hl : s.size ≤ 4096) (hE : Env w) :
    Calls Tryd.prog 9 #[.string s] w (LexPost w (Tk.lex s.data.toList)) := by
  have hsz : s.data.toList.length = s.size := by rw [Array.length_toList]; rfl
  have hR : Tk.lex s.data.toList = Tk.lexAcc s.size (s.size + 1) [] (Tk.skip false s.data.toList) := by unfold Tk.lex; rw [if_neg (by omega), hsz]
  rw [hR]
  clear hR
  obtain ⟨i0, hi0, hz0, hz1, hz2⟩ := info_parts Tryd.infoTok
  have hE12 := hE.size
  generalize hRR : Tk.lexAcc s.size (s.size + 1) [] (Tk.skip false s.data.toList) = R
  have HR := Lib.hid hRR
  have HE := Lib.hid hE
  have HSZ := Lib.hid hsz
  clear hRR hE hsz
  go_enter Tryd.func9, Tryd.ntmps9
  go_wp2_with fail
  have S0 := skip_any s 0 (by omega) (by omega) w.heap.size (w.alloc (.cells #[.string s, .int .i64 0] 38)) (alloc_now w _)
  have h0 : LexAt s w 0 [] (.slice none 0 0) (w.alloc (.cells #[.string s, .int .i64 0] 38)) := ⟨alloc_now w _, own_none _ _ _ _, (Below.refl _ _).alloc (Nat.le_refl _) _⟩
  have hk0 : Tk.skipAt s.data.toList 0 ≤ s.size := by have := Tk.skipAt_le s.data.toList 0; rw [HSZ.out] at this; exact this
  have hd0 := Tk.skipAt_drop s.data.toList 0
  have H0 := Lib.hid h0
  have HD0 := Lib.hid hd0
  clear h0 hd0
  go_wp2_with (go_at_call 17; refine S0.mono ?_; rintro e w1 ⟨rfl, hu⟩)
  have H1 := Lib.hid (H0.out.upd hu)
  clear hu H0
  go_loopg [2, 3, 4, 6] (s.size + 1) (fun n v2 v3 v4 v6 wr => ∃ (k : Nat) (acc : List Tk.Tok) (f : Nat), k ≤ s.size ∧ s.size - k < n ∧ s.size - k < f ∧ acc.length ≤ k ∧ v2 = .slice none 0 0 ∧ v3 = .int .i64 0 ∧ v4 = .int .i64 0 ∧ Hid (LexAt s w k acc v6 wr) ∧ Hid (Tk.lexAcc s.size f acc (s.data.toList.drop k) = R))
  case atStart => exact ⟨Tk.skipAt s.data.toList 0, [], s.size + 1, hk0, by omega, by omega, by simp, rfl, rfl, rfl, H1.out, by rw [HD0.out]; exact HR.out⟩
  case round =>
    clear H1 HR S0 HD0
    obtain ⟨k, acc, f, hk, hn, hf, hacc, rfl, rfl, rfl, HL, HR⟩ := hrel
    obtain ⟨hc0, hc1, hf1⟩ := lexObj_cells HL.out.lex
    have hlw := HL.out.lt
    by_cases hlt : k < s.size
    · obtain ⟨f, rfl⟩ : ∃ g, f = g + 1 := ⟨f - 1, by omega⟩
      have N := next_any s k hlt (by omega) w.heap.size _ HL.out.lex (HE.out.below HL.out.below) (by omega)
      have hRn : R = match Tk.next (s.data.toList.drop k) with
          | .error e => ([], s.size - (s.data.toList.drop k).length, e)
          | .ok (kd, t, i, r) => Tk.lexAcc s.size f (acc ++ [⟨kd, t, i, s.size - (s.data.toList.drop k).length⟩]) (Tk.skip false r) := by
        rw [← HR.out, drop_at s k hlt]
        rfl
      have hkk : s.size - (s.data.toList.drop k).length = k := by rw [List.length_drop, HSZ.out]; omega
      rw [hkk] at hRn
      have hlen := Tk.next_length (s.data.toList.drop k)
      cases hN : Tk.next (s.data.toList.drop k) with
      | error e =>
        rw [hN] at N hRn
        subst hRn
        have N2 : Calls Tryd.prog 18 #[.pointer (some ⟨w.heap.size, 0, none⟩)] wr (fun e' w' => e' = .returned (.tuple #[.agg #[.int .u8 0, .string ⟨#[]⟩, .int .i64 0, .int .i64 0], .int .i64 (e : Int)]) ∧ Upd w.heap.size (lexObj s k) wr w') := N.mono fun _ _ h => h
        have he := Tk.next_err _ _ hN
        clear HR hlen hN hkk N
        rcases he with rfl | rfl
        all_goals
          go_wp2_with (go_at_call 18; refine N2.mono ?_; rintro e w1 ⟨rfl, hu⟩; have HL1 := Lib.hid (HL.out.upd hu); clear hu; obtain ⟨x0, x1, x2⟩ := lexObj_cells HL1.out.lex; have hlw1 := HL1.out.lt)
          go_quiet (fail)
          go_wp2_with fail
          go_ret3
          exact ⟨_, rfl, own_none _ _ _ _, pw_drewN (HL1.out.below.trans ((Below.refl _ _).alloc (Nat.le_of_lt hlw1) _)) _⟩
      | ok x =>
        obtain ⟨kd, t, i, r⟩ := x
        rw [hN] at N hRn
        have hlen2 := hlen _ _ _ _ hN
        have hsuf := List.suffix_iff_eq_drop.1 (Tk.next_suffix _ _ _ _ _ hN)
        rw [List.length_drop, HSZ.out, List.drop_drop] at hsuf
        rw [List.length_drop, HSZ.out] at hlen2
        have hk1 : k + (s.size - k - r.length) = s.size - r.length := by omega
        rw [hk1] at hsuf
        clear hk1
        have N2 : Calls Tryd.prog 18 #[.pointer (some ⟨w.heap.size, 0, none⟩)] wr (fun e' w' => e' = .returned (.tuple #[.agg #[.int .u8 (kd : Int), .string ⟨t.toArray⟩, .int .i64 i, .int .i64 (k : Int)], .int .i64 0]) ∧ Upd w.heap.size (lexObj s (s.size - r.length)) wr w') := N.mono fun _ _ h => h
        generalize hk1 : s.size - r.length = k1 at N2 hsuf
        have hk1le : k1 ≤ s.size := by omega
        have hkk1 : k < k1 := by omega
        have hRn2 : R = Tk.lexAcc s.size f (acc ++ [⟨kd, t, i, k⟩]) (s.data.toList.drop (Tk.skipAt s.data.toList k1)) := by rw [Tk.skipAt_drop, ← hsuf]; exact hRn
        have hsk : Tk.skipAt s.data.toList k1 ≤ s.size := by have := Tk.skipAt_le s.data.toList k1; rw [HSZ.out] at this; exact this
        have hsk2 := Tk.skipAt_ge s.data.toList k1 (by rw [HSZ.out]; exact hk1le)
        have HRN := Lib.hid hRn2
        clear HR hlen hN hkk N hsuf hRn hRn2 hk1 hlen2
        have S1 : ∀ (wx : World), wx.heap[w.heap.size]? = some (lexObj s k1) → _ := fun wx h => skip_any s k1 hk1le (by omega) w.heap.size wx h
        have HS1 := Lib.hid S1
        clear S1
        go_wp2_with (first
          | (go_at_call 18; refine N2.mono ?_; rintro e w1 ⟨rfl, hu⟩; have HL1 := Lib.hid (HL.out.upd hu); clear hu; have hlw1 := HL1.out.lt)
          | (go_at_call 17; refine (HS1.out _ HL2.out.lex).mono ?_; rintro e w3 ⟨rfl, hu3⟩; have HL3 := Lib.hid (HL2.out.upd hu3); clear hu3)
          | (at_builtin; refine wpList_append_own _ rfl _ _ 23 rfl (w.heap.size + 1) 31 i0 _ 4 40 Tryd.underlying23 hi0 hz0 hz1 hz2 rfl (by decide) _ _ _ rfl ((HL1.out.alloc _).alloc _).own ⟨w1.heap.size + 1, 0, none⟩ 1 1 (tokCells1 ⟨kd, t, i, k⟩) rfl rfl ?c1 ?c2 ?c3 ?c4 ?c5 ?_; (case c1 => exact news_tok ⟨kd, t, i, k⟩ (alloc_now2 w1 _ _)); (case c2 => simp [tokCells1, Value.oneCell']); (case c3 => unfold maxLen; omega); (case c4 => omega); (case c5 => simp; omega); intro v' w2 hown' hgrow _; have HL2 := Lib.hid (LexAt.grown (acc' := acc ++ [⟨kd, t, i, k⟩]) ((HL1.out.alloc _).alloc _) (by rw [List.length_append, tokCells_snoc]; exact hown') hgrow); clear hown' hgrow))
        go_roundg (gk - 1)
        case measure => omega
        case rel => exact ⟨Tk.skipAt s.data.toList k1, acc ++ [(⟨kd, t, i, k⟩ : Tk.Tok)], f, hsk, by omega, by omega, by simp; omega, rfl, rfl, rfl, HL3, HRN.out.symm⟩
    · obtain rfl : k = s.size := by omega
      obtain ⟨f, rfl⟩ : ∃ g, f = g + 1 := ⟨f - 1, by omega⟩
      have hR := HR.out
      rw [drop_end] at hR
      have hR2 : (acc ++ [⟨0, [], 0, s.size⟩], 0, 0) = R := hR
      subst hR2
      clear HR hR
      go_wp2_with (at_builtin; refine wpList_append_own _ rfl _ _ 23 rfl (w.heap.size + 1) 31 i0 _ 4 40 Tryd.underlying23 hi0 hz0 hz1 hz2 rfl (by decide) _ _ _ rfl (HL.out.alloc _).own ⟨wr.heap.size, 0, none⟩ 1 1 (tokCells1 ⟨0, [], 0, s.size⟩) rfl rfl ?c1 ?c2 ?c3 ?c4 ?c5 ?_; (case c1 => exact news_tok ⟨0, [], 0, s.size⟩ (alloc_now wr _)); (case c2 => simp [tokCells1, Value.oneCell']); (case c3 => unfold maxLen; omega); (case c4 => omega); (case c5 => simp; omega); intro v' w2 hown' hgrow _; have HL2 := Lib.hid (LexAt.grown (acc' := acc ++ [⟨0, [], 0, s.size⟩]) (HL.out.alloc _) (by rw [List.length_append, tokCells_snoc]; exact hown') hgrow); clear hown' hgrow)
      go_ret3
      exact ⟨v', rfl, own_lower HL2.out.own (by omega), HL2.out.below⟩
theorem lex_any (s : ByteArray) (w : World) (hE : Env w) : Calls Tryd.prog 9 #[.string s] w (LexPost w (Tk.lex s.data.toList)) := by
  by_cases h : s.size ≤ 4096
  · exact lex_short s w h hE
  · exact lex_long s w (by omega)
end Go.Proofs.YteoleblodhgheaaDoor
