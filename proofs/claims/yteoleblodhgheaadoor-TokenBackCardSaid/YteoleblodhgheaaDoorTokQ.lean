import Derived.Test.YteoleblodhgheaaDoorTokP
import Derived.Test.YteoleblodhgheaaDoorPLawF
namespace Go.Proofs.YteoleblodhgheaaDoor
open Go.RowKit
set_option maxHeartbeats 400000
theorem Tryd.infoInt : (Tryd.prog.info? 3).map (fun i => (i.zero, i.size, i.bytes)) = some (some (.int .i64 0), 1, 8) := by kernel_rfl
/-- The blanks that came in. -/
def BlanksAt (w : World) (v : Value) (bl : List UInt8) : Prop :=
  ∃ oa cap, v = .slice oa bl.length cap ∧ bl.length ≤ cap ∧ ∀ i (h : i < bl.length), ∃ a, oa = some a ∧ w.cell? (a.add i) = some (.int .u8 (bl[i].toNat : Int)) ∧ a.block < w.heap.size
def gapOf (bl : List UInt8) (i : Nat) : Nat := if h : bl = [] then 0 else (bl[i % bl.length]'(Nat.mod_lt _ (List.length_pos_iff.2 h))).toNat % 4
set_option maxRecDepth 100000 in
set_option maxHeartbeats 4000000 in
theorem back_big (s : ByteArray) (bl : List UInt8) (vb : Value) (caps : Bool) (w : World) (hE : Env w) (hb : BlanksAt w vb bl) (hs : 1000 < s.size ∨ (s.size ≤ 1000 ∧ 100 < bl.length)) :
    Calls Tryd.prog 4 #[.string s, vb, .bool caps] w (BoolPost w true) := by
  have HX := Lib.hid (At.refl hE)
  clear hE
  obtain ⟨oa, cap, rfl, hcap, _⟩ := hb
  rcases hs with hs | ⟨hs, ht⟩
  all_goals
    go_enter Tryd.func4, Tryd.ntmps4
    go_wp2_with ((go_at_call 8; refine (wakes_any _ HX.out.1).mono ?_; rintro e wn ⟨rfl, hb⟩; replace HX := Lib.hid (HX.out.step hb); clear hb))
    go_ret
    exact ⟨rfl, HX.out.2⟩
set_option maxRecDepth 100000 in
set_option maxHeartbeats 4000000 in
theorem back_bad (s : ByteArray) (bl : List UInt8) (vb : Value) (caps : Bool) (w : World) (hE : Env w) (hb : BlanksAt w vb bl) (hs : s.size ≤ 1000) (hbl : bl.length ≤ 100) (p e : Nat) (hl : Tk.lex s.data.toList = ([], p, e)) (he : e = 2 ∨ e = 30) :
    Calls Tryd.prog 4 #[.string s, vb, .bool caps] w (BoolPost w true) := by
  have C1 := lex2 s
  rw [hl] at C1
  have K1 := Lib.hid C1
  have HX := Lib.hid (At.refl hE)
  clear hE C1 hl
  have he0 : ¬ (e : Int) = 0 := by omega
  clear he
  obtain ⟨oa, cap, rfl, hcap, _⟩ := hb
  go_enter Tryd.func4, Tryd.ntmps4
  go_wp2_with fail
  refine (K1.out w HX.out.1).mono ?_
  rintro _ w1 ⟨v1, rfl, hb1, hv1⟩
  replace HX := Lib.hid (HX.out.step hb1)
  rcases hv1 with ⟨rfl, _⟩ | ⟨g, c, rfl, _⟩
  all_goals
    go_wp2_with ((go_at_call 8; refine (wakes_any _ HX.out.1).mono ?_; rintro e wn ⟨rfl, hb⟩; replace HX := Lib.hid (HX.out.step hb); clear hb))
    go_ret
    exact ⟨rfl, HX.out.2⟩
/-- Where the words are laid anew. -/
def markOf (bl : List UInt8) (caps : Bool) (ts : List Tk.Tok) (j : Nat) : Nat := (Tk.build (gapOf bl) caps 0 (ts.take j) ++ Tk.gapL (gapOf bl j)).length
def marks (bl : List UInt8) (caps : Bool) (ts : List Tk.Tok) (j : Nat) : List Value := (List.range j).map fun q => .int .i64 (markOf bl caps ts q : Int)
theorem marks_succ (bl : List UInt8) (caps : Bool) (ts : List Tk.Tok) (j : Nat) : marks bl caps ts (j + 1) = marks bl caps ts j ++ [.int .i64 (markOf bl caps ts j : Int)] := by
  simp [marks, List.range_succ]
/-- Which gap stands ahead of a word: the text that the walk lays. -/
theorem gap_none (bl : List UInt8) (h : bl.length = 0) (i : Nat) : gapOf bl i = 0 := by
  obtain rfl := List.eq_nil_of_length_eq_zero h
  rfl
theorem gap_some (bl : List UInt8) (h : 0 < bl.length) (i : Nat) : gapOf bl i = (bl[i % bl.length]'(Nat.mod_lt _ h)).toNat % 4 := by
  unfold gapOf
  rw [dif_neg (by intro e; rw [e] at h; simp at h)]
theorem gap_lt (bl : List UInt8) (i : Nat) : gapOf bl i = 0 ∨ gapOf bl i = 1 ∨ gapOf bl i = 2 ∨ gapOf bl i = 3 := by
  unfold gapOf
  split <;> omega
structure BackAt (s : ByteArray) (bl : List UInt8) (caps : Bool) (ts : List Tk.Tok) (w : World) (b1 g1 c1 : Nat) (v : Value) (j : Nat) (wr : World) : Prop where
  at_ : At w wr
  row : RowAt w.heap.size wr g1 c1 (ts ++ [⟨0, [], 0, s.size⟩])
  own : wr.ownsRow b1 3 1 v j (marks bl caps ts j)
  high : w.heap.size ≤ b1
  low : g1 < b1
  here : b1 ≤ wr.heap.size
  eleven : 11 ≤ w.heap.size
theorem news_int {w : World} {A : Nat} {n : Int} (h : w.heap[A]? = some (.cells #[.int .i64 n] 3 (0, 0))) :
    ∀ j u, ([.int .i64 n] : List Value)[j]? = some u → w.cell? ((⟨A, 0, none⟩ : Addr).add j) = some u := by
  intro j u hj
  have e : ((⟨A, 0, none⟩ : Addr).add j) = ⟨A, j, none⟩ := by unfold Addr.add; split <;> simp_all
  rw [e, blk_cell h]
  simpa using hj
theorem RowAt.zero {base : Nat} {w : World} {g cap : Nat} {ts : List Tk.Tok} (h : RowAt base w g cap ts) : RowAt 0 w g cap ts := ⟨Nat.zero_le _, h.2⟩
theorem mark_cell {w : World} {b1 ga n ca : Nat} {bl : List UInt8} {caps : Bool} {ts : List Tk.Tok} (h : w.ownsRow b1 3 1 (.slice (some ⟨ga, 0, none⟩) n ca) n (marks bl caps ts n)) (q : Nat) (hq : q < n) :
    w.cell? ⟨ga, q, none⟩ = some (.int .i64 (markOf bl caps ts q : Int)) := by
  rcases h.2 with ⟨h1, _⟩ | ⟨g, cap, cur, h1, hg, hh, hn, hc, hs, ht⟩
  · cases h1
  · cases h1
    rw [blk_cell hh, ← Array.getElem?_toList]
    have : (cur.toList.take (n * 1))[q]? = cur.toList[q]? := List.getElem?_take_of_lt (by omega)
    rw [← this, ht]
    simp [marks, hq]
theorem BackAt.more {s : ByteArray} {bl : List UInt8} {caps : Bool} {ts : List Tk.Tok} {w : World} {b1 g1 c1 : Nat} {v : Value} {j : Nat} {wr w1 : World} (h : BackAt s bl caps ts w b1 g1 c1 v j wr) (hb : Below wr.heap.size wr w1) : BackAt s bl caps ts w b1 g1 c1 v j w1 :=
  ⟨h.at_.step hb, h.row.below hb, own_keep h.own (fun k _ h2 => hb.block k h2), h.high, h.low, Nat.le_trans h.here hb.size, h.eleven⟩
theorem BackAt.alloc {s : ByteArray} {bl : List UInt8} {caps : Bool} {ts : List Tk.Tok} {w : World} {b1 g1 c1 : Nat} {v : Value} {j : Nat} {wr : World} (h : BackAt s bl caps ts w b1 g1 c1 v j wr) (o : Obj) : BackAt s bl caps ts w b1 g1 c1 v j (wr.alloc o) :=
  h.more ((Below.refl _ _).alloc (Nat.le_refl _) _)
theorem BackAt.grown {s : ByteArray} {bl : List UInt8} {caps : Bool} {ts : List Tk.Tok} {w : World} {b1 g1 c1 : Nat} {v v' : Value} {j : Nat} {wr w1 : World} (h : BackAt s bl caps ts w b1 g1 c1 v j wr)
    (ho : w1.ownsRow b1 3 1 v' (j + 1) (marks bl caps ts j ++ [.int .i64 (markOf bl caps ts j : Int)])) (hg : wr.grownBy w1 v.ownBlock) : BackAt s bl caps ts w b1 g1 c1 v' (j + 1) w1 := by
  have hne : ∀ k, k < b1 → some k ≠ v.ownBlock := fun k hk e => by have := own_ge h.own k e.symm; omega
  have hlow := h.low
  have hhigh := h.high
  have hhere := h.here
  have hbw : Below w.heap.size w w1 := h.at_.2.grown hg h.at_.2.size (fun k hk => by have := own_ge h.own k hk; omega)
  refine ⟨⟨?_, hbw⟩, ?_, by rw [marks_succ]; exact ho, hhigh, hlow, Nat.le_trans hhere hg.size, h.eleven⟩
  · exact h.at_.1.keep (fun k hk => hg.block k (by have := h.eleven; omega) (hne k (by have := h.eleven; omega))) hg.size
  · obtain ⟨m1, m2, m3, m4, m5⟩ := h.row
    refine ⟨m1, Nat.lt_of_lt_of_le m2 hg.size, m3, m4, fun i hi f hf => ?_⟩
    rw [World.cell?_of_block (w := wr) (a := ⟨g1, i * 4 + f, none⟩) (hg.block g1 m2 (hne g1 hlow))]
    exact m5 i hi f hf
set_option maxRecDepth 100000 in
set_option maxHeartbeats 16000000 in
theorem back_laid (s : ByteArray) (bl : List UInt8) (vb : Value) (caps : Bool) (w : World) (hE : Env w) (hb : BlanksAt w vb bl) (hs : s.size ≤ 1000) (hbl : bl.length ≤ 100) (ts : List Tk.Tok) (hT : Tk.Told s.size ts) (hl : Tk.lex s.data.toList = (ts ++ [⟨0, [], 0, s.size⟩], 0, 0)) :
    Calls Tryd.prog 4 #[.string s, vb, .bool caps] w (BoolPost w true) := by
  have C1 := lex2 s
  rw [hl] at C1
  have K1 := Lib.hid C1
  have HX := Lib.hid (At.refl hE)
  obtain ⟨i0, hi0, hz0, hz1, hz2⟩ := info_parts Tryd.infoInt
  have hn := hT.len
  have HT := Lib.hid hT
  have h11 := hE.size
  obtain ⟨oa, cap, rfl, hcap, hcells⟩ := hb
  have HC := Lib.hid hcells
  obtain ⟨bn, hbn⟩ : ∃ bn, bn = bl.length := ⟨_, rfl⟩
  rw [← hbn] at hcap hbl ⊢
  have HBN := Lib.hid hbn.symm
  clear hE C1 hl hT hcells hbn
  go_enter Tryd.func4, Tryd.ntmps4
  go_wp2_with fail
  refine (K1.out w HX.out.1).mono ?_
  rintro _ w1 ⟨v1, rfl, hb1, hv1⟩
  replace HX := Lib.hid (HX.out.step hb1)
  rcases hv1 with ⟨_, h0⟩ | ⟨g1, c1, rfl, hr⟩
  · simp at h0
  obtain ⟨a0, a1, a2, a3⟩ := hr.at ts.length ⟨0, [], 0, s.size⟩ (by simp)
  have m3 : ts.length + 1 ≤ c1 := by have := hr.2.2.1; simpa using this
  have hlt1 := hr.2.1
  have HR := Lib.hid hr
  clear hr hb1 K1
  have e1 : (ts ++ [(⟨0, [], 0, s.size⟩ : Tk.Tok)]).length = ts.length + 1 := by simp
  simp only [e1]
  clear e1
  generalize hnn : ts.length = n at *
  have HN := Lib.hid hnn
  clear hnn
  go_wp2_with fail
  have H0 : BackAt s bl caps ts w w1.heap.size g1 c1 (.slice none 0 0) 0 w1 := ⟨HX.out, HR.out, own_none _ _ _ _, HX.out.2.size, hlt1, Nat.le_refl _, h11⟩
  have HB0 := Lib.hid H0
  clear H0 a0 a1 a2 a3 HX HR
  generalize w1.heap.size = b1 at *
  go_loopg [11, 12, 13] (n + 1) (fun k o v i wr => ∃ j : Nat, j ≤ n ∧ n - j < k ∧ i = .int .i64 j ∧ o = .string ⟨(Tk.build (gapOf bl) caps 0 (ts.take j)).toArray⟩ ∧ Hid (BackAt s bl caps ts w b1 g1 c1 v j wr))
  case atStart => exact ⟨0, by omega, by omega, rfl, rfl, HB0.out⟩
  case round =>
    clear HB0
    obtain ⟨j, hj, hk, rfl, rfl, HB⟩ := hrel
    by_cases hlt : j < n
    · have hjT : j < ts.length := by rw [HN.out]; exact hlt
      obtain ⟨x, hx⟩ : ∃ x, ts[j]? = some x := ⟨_, List.getElem?_eq_getElem hjT⟩
      obtain ⟨hok, hxl⟩ := HT.out.ok x (List.mem_of_getElem? hx)
      have W := written_any x hok (by omega) caps
      have hXl := Tk.written_len caps hok (by omega)
      have hTl := Tk.build_len (gapOf bl) caps (ts.take j) 0 (fun t ht => ⟨(HT.out.ok t (List.mem_of_mem_take ht)).1, by have := (HT.out.ok t (List.mem_of_mem_take ht)).2; omega⟩)
      rw [List.length_take] at hTl
      replace hTl : (Tk.build (gapOf bl) caps 0 (ts.take j)).length ≤ 2013000 := by omega
      have hfin := Tk.build_take (gapOf bl) caps ts j x hx
      have hrow : ∀ wq, RowAt w.heap.size wq g1 c1 (ts ++ [⟨0, [], 0, s.size⟩]) → _ := fun wq h => h.at j x (by rw [List.getElem?_append_left hjT]; exact hx)
      have hmk : (markOf bl caps ts j : Int) = (Tk.build (gapOf bl) caps 0 (ts.take j)).length + ((Tk.gapL (gapOf bl j)).length : Nat) := by
        unfold markOf
        rw [List.length_append]
        rfl
      have hgap : bn = 0 ∧ gapOf bl j = 0 ∨ 0 < bn ∧ ∃ (a : Addr) (y : UInt8) (q : Nat), oa = some a ∧ q < bn ∧ ((j : Int) % (bn : Int)) = (q : Int) ∧ wr.cell? (a.add q) = some (.int .u8 (y.toNat : Int)) ∧ ((y.toNat : Int) % 4) = (gapOf bl j : Int) := by
        by_cases hb0 : bn = 0
        · exact Or.inl ⟨hb0, gap_none bl (by rw [HBN.out]; exact hb0) j⟩
        · have hpos : 0 < bl.length := by rw [HBN.out]; omega
          have hq : j % bl.length < bl.length := Nat.mod_lt _ hpos
          obtain ⟨a, ha, hc, hab⟩ := HC.out (j % bl.length) hq
          refine Or.inr ⟨by omega, a, bl[j % bl.length], j % bl.length, ha, by rw [← HBN.out]; exact hq, by rw [← HBN.out]; rfl, ?_, ?_⟩
          · have hbk : (a.add (j % bl.length)).block = a.block := by unfold Addr.add; split <;> rfl
            exact (World.cell?_of_block (w := w) (a := a.add (j % bl.length)) (by rw [hbk]; exact HB.out.at_.2.block a.block hab)).trans hc
          · rw [gap_some bl hpos]
            rfl
      have hg4 := gap_lt bl j
      generalize gapOf bl j = gj at *
      generalize Tk.writtenL x.kind x.text x.int caps = X at *
      generalize Tk.build (gapOf bl) caps 0 (ts.take j) = T at *
      generalize hTn : Tk.build (gapOf bl) caps 0 (ts.take (j + 1)) = TN at *
      have hstr : ({ data := T.toArray } : ByteArray) ++ { data := (Tk.gapL gj).toArray } ++ { data := X.toArray } = { data := TN.toArray } := by
        rw [hfin]; apply ByteArray.ext; simp
      have HS := Lib.hid hstr
      have HF := Lib.hid hTn
      have HW := Lib.hid W
      have HROW := Lib.hid hrow
      have HMK := Lib.hid hmk
      clear W hfin hstr hTn hrow hmk hok hxl hx hjT
      obtain ⟨xk, xt, xi, xp⟩ := x
      simp only at HROW HW
      rcases hgap with ⟨hb0, hg0⟩ | ⟨hbp, a, y, q, hoa, hq, hmod, hcell, hy4⟩
      · have hbI : decide ((0 : Int) < (bn : Int)) = false := decide_eq_false (by omega)
        have hbN : decide (0 < bn) = false := decide_eq_false (by omega)
        clear hb0 hg4
        subst hg0
        have HS2 : Hid (({ data := T.toArray } : ByteArray) ++ { data := #[32] } ++ { data := X.toArray } = { data := TN.toArray }) := HS
        have HMK2 : Hid ((markOf bl caps ts j : Int) = (T.length : Int) + 1) := HMK
        clear HS HMK
        go_wp2_with (first
          | (at_builtin; refine wpList_append_own _ rfl _ _ 32 rfl b1 3 i0 _ 1 8 Tryd.underlying32 hi0 hz0 hz1 hz2 rfl (by decide) _ _ _ rfl (HB.out.alloc _).own ⟨wr.heap.size, 0, none⟩ 1 1 [.int .i64 ((T.length : Int) + 1)] rfl rfl ?c1 ?c2 ?c3 ?c4 ?c5 ?_; (case c1 => exact news_int (alloc_now wr _)); (case c2 => simp [Value.oneCell']); (case c3 => unfold maxLen; omega); (case c4 => omega); (case c5 => have := HB.out.here; simp; omega); intro v' w2 hown' hgrow _; have HB2 := Lib.hid ((HB.out.alloc _).grown (by rw [HMK2.out]; exact hown') hgrow); obtain ⟨a0, a1, a2, a3⟩ := HROW.out w2 HB2.out.row; have hl2 := HB2.out.row.2.1; clear hown' hgrow)
          | (go_at_call 16; refine (HW.out w2).mono ?_; rintro e w3 ⟨rfl, hb3⟩; have HB3 := Lib.hid (HB2.out.more hb3); clear hb3))
        go_roundg (gk - 1)
        case measure => omega
        case rel => exact ⟨j + 1, by omega, by omega, by push_cast; rfl, by rw [HF.out]; exact congrArg Value.string HS2.out, HB3.out⟩
      · have hbI : decide ((0 : Int) < (bn : Int)) = true := decide_eq_true (by omega)
        have hbN : decide (0 < bn) = true := decide_eq_true (by omega)
        have hqn : ((j : Int) % (bn : Int)).toNat = q := by rw [hmod]; rfl
        have hq0 : (0 : Int) ≤ (j : Int) % (bn : Int) := by rw [hmod]; omega
        have hq1 : (j : Int) % (bn : Int) < (bn : Int) := by rw [hmod]; omega
        subst hoa
        clear hmod
        rcases hg4 with rfl | rfl | rfl | rfl
        · have hyv : ((y.toNat : Int) % 4) = 0 := hy4
          clear hy4
          have HS2 : Hid (({ data := T.toArray } : ByteArray) ++ { data := #[32] } ++ { data := X.toArray } = { data := TN.toArray }) := HS
          have HMK2 : Hid ((markOf bl caps ts j : Int) = (T.length : Int) + 1) := HMK
          clear HS HMK
          go_wp2_with (first
            | (at_builtin; refine wpList_append_own _ rfl _ _ 32 rfl b1 3 i0 _ 1 8 Tryd.underlying32 hi0 hz0 hz1 hz2 rfl (by decide) _ _ _ rfl (HB.out.alloc _).own ⟨wr.heap.size, 0, none⟩ 1 1 [.int .i64 ((T.length : Int) + 1)] rfl rfl ?c1 ?c2 ?c3 ?c4 ?c5 ?_; (case c1 => exact news_int (alloc_now wr _)); (case c2 => simp [Value.oneCell']); (case c3 => unfold maxLen; omega); (case c4 => omega); (case c5 => have := HB.out.here; simp; omega); intro v' w2 hown' hgrow _; have HB2 := Lib.hid ((HB.out.alloc _).grown (by rw [HMK2.out]; exact hown') hgrow); obtain ⟨a0, a1, a2, a3⟩ := HROW.out w2 HB2.out.row; have hl2 := HB2.out.row.2.1; clear hown' hgrow)
            | (go_at_call 16; refine (HW.out w2).mono ?_; rintro e w3 ⟨rfl, hb3⟩; have HB3 := Lib.hid (HB2.out.more hb3); clear hb3))
          go_roundg (gk - 1)
          case measure => omega
          case rel => exact ⟨j + 1, by omega, by omega, by push_cast; rfl, by rw [HF.out]; exact congrArg Value.string HS2.out, HB3.out⟩
        · have hyv : ((y.toNat : Int) % 4) = 1 := hy4
          clear hy4
          have HS2 : Hid (({ data := T.toArray } : ByteArray) ++ { data := #[9, 10] } ++ { data := X.toArray } = { data := TN.toArray }) := HS
          have HMK2 : Hid ((markOf bl caps ts j : Int) = (T.length : Int) + 2) := HMK
          clear HS HMK
          go_wp2_with (first
            | (at_builtin; refine wpList_append_own _ rfl _ _ 32 rfl b1 3 i0 _ 1 8 Tryd.underlying32 hi0 hz0 hz1 hz2 rfl (by decide) _ _ _ rfl (HB.out.alloc _).own ⟨wr.heap.size, 0, none⟩ 1 1 [.int .i64 ((T.length : Int) + 2)] rfl rfl ?c1 ?c2 ?c3 ?c4 ?c5 ?_; (case c1 => exact news_int (alloc_now wr _)); (case c2 => simp [Value.oneCell']); (case c3 => unfold maxLen; omega); (case c4 => omega); (case c5 => have := HB.out.here; simp; omega); intro v' w2 hown' hgrow _; have HB2 := Lib.hid ((HB.out.alloc _).grown (by rw [HMK2.out]; exact hown') hgrow); obtain ⟨a0, a1, a2, a3⟩ := HROW.out w2 HB2.out.row; have hl2 := HB2.out.row.2.1; clear hown' hgrow)
            | (go_at_call 16; refine (HW.out w2).mono ?_; rintro e w3 ⟨rfl, hb3⟩; have HB3 := Lib.hid (HB2.out.more hb3); clear hb3))
          go_roundg (gk - 1)
          case measure => omega
          case rel => exact ⟨j + 1, by omega, by omega, by push_cast; rfl, by rw [HF.out]; exact congrArg Value.string HS2.out, HB3.out⟩
        · have hyv : ((y.toNat : Int) % 4) = 2 := hy4
          clear hy4
          have HS2 : Hid (({ data := T.toArray } : ByteArray) ++ { data := #[32, 45, 45, 32, 105, 116, 39, 115, 32, 40, 10] } ++ { data := X.toArray } = { data := TN.toArray }) := HS
          have HMK2 : Hid ((markOf bl caps ts j : Int) = (T.length : Int) + 11) := HMK
          clear HS HMK
          go_wp2_with (first
            | (at_builtin; refine wpList_append_own _ rfl _ _ 32 rfl b1 3 i0 _ 1 8 Tryd.underlying32 hi0 hz0 hz1 hz2 rfl (by decide) _ _ _ rfl (HB.out.alloc _).own ⟨wr.heap.size, 0, none⟩ 1 1 [.int .i64 ((T.length : Int) + 11)] rfl rfl ?c1 ?c2 ?c3 ?c4 ?c5 ?_; (case c1 => exact news_int (alloc_now wr _)); (case c2 => simp [Value.oneCell']); (case c3 => unfold maxLen; omega); (case c4 => omega); (case c5 => have := HB.out.here; simp; omega); intro v' w2 hown' hgrow _; have HB2 := Lib.hid ((HB.out.alloc _).grown (by rw [HMK2.out]; exact hown') hgrow); obtain ⟨a0, a1, a2, a3⟩ := HROW.out w2 HB2.out.row; have hl2 := HB2.out.row.2.1; clear hown' hgrow)
            | (go_at_call 16; refine (HW.out w2).mono ?_; rintro e w3 ⟨rfl, hb3⟩; have HB3 := Lib.hid (HB2.out.more hb3); clear hb3))
          go_roundg (gk - 1)
          case measure => omega
          case rel => exact ⟨j + 1, by omega, by omega, by push_cast; rfl, by rw [HF.out]; exact congrArg Value.string HS2.out, HB3.out⟩
        · have hyv : ((y.toNat : Int) % 4) = 3 := hy4
          clear hy4
          have HS2 : Hid (({ data := T.toArray } : ByteArray) ++ { data := #[13, 32] } ++ { data := X.toArray } = { data := TN.toArray }) := HS
          have HMK2 : Hid ((markOf bl caps ts j : Int) = (T.length : Int) + 2) := HMK
          clear HS HMK
          go_wp2_with (first
            | (at_builtin; refine wpList_append_own _ rfl _ _ 32 rfl b1 3 i0 _ 1 8 Tryd.underlying32 hi0 hz0 hz1 hz2 rfl (by decide) _ _ _ rfl (HB.out.alloc _).own ⟨wr.heap.size, 0, none⟩ 1 1 [.int .i64 ((T.length : Int) + 2)] rfl rfl ?c1 ?c2 ?c3 ?c4 ?c5 ?_; (case c1 => exact news_int (alloc_now wr _)); (case c2 => simp [Value.oneCell']); (case c3 => unfold maxLen; omega); (case c4 => omega); (case c5 => have := HB.out.here; simp; omega); intro v' w2 hown' hgrow _; have HB2 := Lib.hid ((HB.out.alloc _).grown (by rw [HMK2.out]; exact hown') hgrow); obtain ⟨a0, a1, a2, a3⟩ := HROW.out w2 HB2.out.row; have hl2 := HB2.out.row.2.1; clear hown' hgrow)
            | (go_at_call 16; refine (HW.out w2).mono ?_; rintro e w3 ⟨rfl, hb3⟩; have HB3 := Lib.hid (HB2.out.more hb3); clear hb3))
          go_roundg (gk - 1)
          case measure => omega
          case rel => exact ⟨j + 1, by omega, by omega, by push_cast; rfl, by rw [HF.out]; exact congrArg Value.string HS2.out, HB3.out⟩
    · obtain rfl : j = n := by omega
      clear hlt hj
      have htake : ts.take j = ts := List.take_of_length_le (by rw [HN.out]; exact Nat.le_refl _)
      rw [htake]
      clear htake
      have hTl := Tk.build_len (gapOf bl) caps ts 0 (fun t ht => ⟨(HT.out.ok t ht).1, by have := (HT.out.ok t ht).2; omega⟩)
      rw [HN.out] at hTl
      have C3 := lex2 ⟨(Tk.build (gapOf bl) caps 0 ts).toArray⟩
      rw [show (ByteArray.mk (Tk.build (gapOf bl) caps 0 ts).toArray).data.toList = Tk.build (gapOf bl) caps 0 ts from rfl] at C3
      by_cases hlong : 4096 < (Tk.build (gapOf bl) caps 0 ts).length
      · have hR : Tk.lex (Tk.build (gapOf bl) caps 0 ts) = ([], 0, 2) := by unfold Tk.lex; rw [if_pos hlong]
        rw [hR] at C3
        have K3 := Lib.hid C3
        clear C3 hR
        generalize Tk.build (gapOf bl) caps 0 ts = T at *
        go_wp2_with fail
        refine (K3.out wr HB.out.at_.1).mono ?_
        rintro _ w3 ⟨v3, rfl, hb3, hv3⟩
        have HX := Lib.hid (HB.out.at_.step hb3)
        clear hb3 hv3
        go_wp2_with ((go_at_call 8; refine (wakes_any _ HX.out.1).mono ?_; rintro e wn ⟨rfl, hb⟩; replace HX := Lib.hid (HX.out.step hb); clear hb))
        go_ret
        exact ⟨rfl, HX.out.2⟩
      · obtain ⟨us, hu1, hu2, hu3⟩ := Tk.back_all (gapOf bl) caps ts (fun t ht => (HT.out.ok t ht).1) (by omega)
        rw [hu1] at C3
        have K3 := Lib.hid C3
        have HU := Lib.hid hu3
        rw [HN.out] at hu2
        clear C3 hu1 hu3
        generalize Tk.build (gapOf bl) caps 0 ts = T at *
        go_wp2_with fail
        refine (K3.out wr HB.out.at_.1).mono ?_
        rintro _ w3 ⟨v3, rfl, hb3, hv3⟩
        have HB3 := Lib.hid (HB.out.more hb3)
        clear hb3 HB
        rcases hv3 with ⟨_, h0⟩ | ⟨g3, c3, rfl, hr⟩
        · simp at h0
        obtain ⟨a0, a1, a2, a3⟩ := hr.at j ⟨0, [], 0, T.length⟩ (by rw [List.getElem?_append_right (by omega), hu2, Nat.sub_self]; rfl)
        have m4 : j + 1 ≤ c3 := by have := hr.2.2.1; simp only [List.length_append, List.length_cons, List.length_nil, hu2] at this; omega
        have HR3 := Lib.hid hr.zero
        have e1 : (us ++ [(⟨0, [], 0, T.length⟩ : Tk.Tok)]).length = j + 1 := by simp [hu2]
        simp only [e1]
        clear e1 hr
        have hown := HB3.out.own
        have hv : (u12 = .slice none 0 0 ∧ j = 0) ∨ ∃ ga ca, u12 = .slice (some ⟨ga, 0, none⟩) j ca ∧ j ≤ ca := by
          rcases hown.2 with ⟨h1, h2⟩ | ⟨ga, ca, cur, h1, hga, hh, hna, hca, hcs, hct⟩
          · exact Or.inl ⟨h1, h2⟩
          · exact Or.inr ⟨ga, ca, h1, hna⟩
        clear hown
        rcases hv with ⟨rfl, rfl⟩ | ⟨ga, ca, rfl, hna⟩
        · go_wp2_with fail
          have HX := Lib.hid HB3.out.at_
          clear HB3 HR3 a0 a1 a2 a3
          go_loopg [18] 1 (fun k i wr => i = .int .i64 0 ∧ Hid (At w wr))
          case atStart => exact ⟨rfl, HX.out⟩
          case round =>
            clear HX
            obtain ⟨rfl, HX⟩ := hrel
            go_wp2_with ((go_at_call 8; refine (wakes_any _ HX.out.1).mono ?_; rintro e wn ⟨rfl, hb⟩; replace HX := Lib.hid (HX.out.step hb); clear hb))
            go_ret
            exact ⟨rfl, HX.out.2⟩
        · go_wp2_with fail
          clear a0 a1 a2 a3
          go_loopg [18] (j + 1) (fun k i wr => ∃ q : Nat, q ≤ j ∧ j - q < k ∧ i = .int .i64 q ∧ Hid (BackAt s bl caps ts w b1 g1 c1 (.slice (some ⟨ga, 0, none⟩) j ca) j wr) ∧ Hid (RowAt 0 wr g3 c3 (us ++ [⟨0, [], 0, T.length⟩])))
          case atStart => exact ⟨0, by omega, by omega, rfl, HB3.out, HR3.out⟩
          case round =>
            clear HB3 HR3
            obtain ⟨q, hq, hkq, rfl, HB, HR⟩ := hrel
            by_cases hlt : q < j
            · have hqT : q < ts.length := by rw [HN.out]; exact hlt
              obtain ⟨x, hx⟩ : ∃ x, ts[q]? = some x := ⟨_, List.getElem?_eq_getElem hqT⟩
              have hux := HU.out q x hx
              obtain ⟨a0, a1, a2, a3⟩ := HB.out.row.at q x (by rw [List.getElem?_append_left hqT]; exact hx)
              obtain ⟨d0, d1, d2, d3⟩ := HR.out.at q _ (by rw [List.getElem?_append_left (by omega)]; exact hux)
              have e0 := mark_cell HB.out.own q hlt
              have d3' : wr.cell? ⟨g3, q * 4 + 3, none⟩ = some (.int .i64 (markOf bl caps ts q : Int)) := d3
              have hpos := HT.out.pos q x hx
              clear d3 hux
              by_cases hq0 : q = 0
              · subst hq0
                clear hx
                generalize markOf bl caps ts 0 = mk at *
                obtain ⟨xk, xt, xi, xp⟩ := x
                simp only [Nat.zero_mul, Nat.zero_add] at a0 a1 a2 a3 d0 d1 d2 d3' hpos
                have hb1 : decide ((s.size : Int) ≤ (xp : Int)) = false := decide_eq_false (by omega)
                have HPOST := Lib.hid (fun nq : Nat => (⟨⟨HB.out.at_.1.drewN nq, pw_drewN HB.out.at_.2 nq⟩, HB.out.row, HB.out.own, HB.out.high, HB.out.low, HB.out.here, HB.out.eleven⟩ : BackAt s bl caps ts w b1 g1 c1 (.slice (some ⟨ga, 0, none⟩) j ca) j (wr.drewN nq)))
                have HROW3 := Lib.hid (fun nq : Nat => (show RowAt 0 (wr.drewN nq) g3 c3 (us ++ [⟨0, [], 0, T.length⟩]) from HR.out))
                clear hlong HT HU HN hTl hu2 hs hn HB HR
                have hposI : (xp : Int) < (s.size : Int) := by omega
                simp only [show ((0 : Nat) : Int) = 0 from rfl]
                go_wp2_with fail
                refine wp_region_quiet_lit (by kernel_rfl) (by kernel_rfl) ?_
                repeat (any_goals (first | go_big_quiet_step (fail) | quiet_step (fail)))
                refine wpQuiet_nil ?_
                intro _ hw'
                obtain ⟨nq, hw''⟩ := hw'
                subst hw''
                clear a0 a1 a2 a3 d0 d1 d2 d3' e0
                go_wp2_with fail
                go_roundg (gk - 1)
                case measure => omega
                case rel => exact ⟨1, by omega, by omega, rfl, HPOST.out nq, HROW3.out nq⟩
              · obtain ⟨p, rfl⟩ : ∃ p, q = p + 1 := ⟨q - 1, by omega⟩
                obtain ⟨x0, hx0⟩ : ∃ x0, ts[p]? = some x0 := ⟨_, List.getElem?_eq_getElem (by omega)⟩
                obtain ⟨b0, b1', b2, b3⟩ := HB.out.row.at p x0 (by rw [List.getElem?_append_left (by omega)]; exact hx0)
                have hrise := HT.out.rise p x0 x hx0 hx
                clear hx hx0
                generalize markOf bl caps ts (p + 1) = mk at *
                obtain ⟨xk, xt, xi, xp⟩ := x
                obtain ⟨yk, yt, yi, yp⟩ := x0
                simp only at a0 a1 a2 a3 d0 d1 d2 d3' hpos b3 hrise
                have hb1 : decide ((s.size : Int) ≤ (xp : Int)) = false := decide_eq_false (by omega)
                have hb2 : decide ((xp : Int) ≤ (yp : Int)) = false := decide_eq_false (by omega)
                have HPOST := Lib.hid (fun nq : Nat => (⟨⟨HB.out.at_.1.drewN nq, pw_drewN HB.out.at_.2 nq⟩, HB.out.row, HB.out.own, HB.out.high, HB.out.low, HB.out.here, HB.out.eleven⟩ : BackAt s bl caps ts w b1 g1 c1 (.slice (some ⟨ga, 0, none⟩) j ca) j (wr.drewN nq)))
                have HROW3 := Lib.hid (fun nq : Nat => (show RowAt 0 (wr.drewN nq) g3 c3 (us ++ [⟨0, [], 0, T.length⟩]) from HR.out))
                have hpb : p ≤ 1000 := by omega
                clear hlong HT HU HN hTl hu2 hs hn HB HR b0 b1' b2
                have hposI : (xp : Int) < (s.size : Int) := by omega
                have hposJ : (yp : Int) < (xp : Int) := by omega
                have hp1 : ((p + 1 : Nat) : Int) = (p : Int) + 1 := by push_cast; rfl
                simp only [hp1]
                clear hp1
                have hbN : decide (xp ≤ yp) = false := decide_eq_false (by omega)
                go_wp2_with fail
                refine wp_region_quiet_lit (by kernel_rfl) (by kernel_rfl) ?_
                repeat (any_goals (first | go_big_quiet_step (fail) | quiet_step (fail)))
                refine wpQuiet_nil ?_
                intro _ hw'
                obtain ⟨nq, hw''⟩ := hw'
                subst hw''
                clear a0 a1 a2 a3 d0 d1 d2 d3' e0 b3
                go_wp2_with fail
                go_roundg (gk - 1)
                case measure => omega
                case rel => exact ⟨p + 2, by omega, by omega, by push_cast; go_num, HPOST.out nq, HROW3.out nq⟩
            · obtain rfl : q = j := by omega
              have HX := Lib.hid HB.out.at_
              clear HB HR HT HU hTl hu2
              go_wp2_with ((go_at_call 8; refine (wakes_any _ HX.out.1).mono ?_; rintro e wn ⟨rfl, hb⟩; replace HX := Lib.hid (HX.out.step hb); clear hb))
              go_ret
              exact ⟨rfl, HX.out.2⟩
end Go.Proofs.YteoleblodhgheaaDoor
