import Derived.Test.YteoleblodhgheaaDoorTokF
import Derived.LoopN
import Derived.Laws.EntriesVeiled
namespace Go.Proofs.YteoleblodhgheaaDoor
open Go.RowKit
set_option maxHeartbeats 400000
theorem byte_int (c : UInt8) (p : UInt8 → Bool) (x : Bool) (f : FuncId) (h : ∀ (c : UInt8) (w : World), Calls Tryd.prog f #[.int .u8 (c.toNat : Int)] w fun e w' => e = .returned (.bool (p c)) ∧ w = w') (hx : p c = x) (w : World) :
    Calls Tryd.prog f #[.int .u8 (c.toNat : Int)] w fun e w' => e = .returned (.bool x) ∧ w' = w :=
  (h c w).mono fun e w' ⟨he, hw⟩ => ⟨by rw [he, hx], hw.symm⟩
/-- The table of readings. -/
def readObj : Obj := .cells #[.func (.func 24) #[] #[], .func (.func 33) #[] #[], .func (.func 23) #[] #[], .func (.func 34) #[] #[], .func (.func 35) #[] #[], .func (.func 36) #[] #[]] 54 (0, 0)
theorem read_cells {w : World} {A : Nat} (h : w.heap[A]? = some readObj) :
    w.cell? ⟨A, 0, none⟩ = some (.func (.func 24) #[] #[]) ∧ w.cell? ⟨A, 1, none⟩ = some (.func (.func 33) #[] #[]) ∧
    w.cell? ⟨A, 2, none⟩ = some (.func (.func 23) #[] #[]) ∧ w.cell? ⟨A, 3, none⟩ = some (.func (.func 34) #[] #[]) ∧
    w.cell? ⟨A, 4, none⟩ = some (.func (.func 35) #[] #[]) ∧ w.cell? ⟨A, 5, none⟩ = some (.func (.func 36) #[] #[]) :=
  ⟨(blk_cell h 0).trans rfl, (blk_cell h 1).trans rfl, (blk_cell h 2).trans rfl, (blk_cell h 3).trans rfl, (blk_cell h 4).trans rfl, (blk_cell h 5).trans rfl⟩
theorem cells2 {w : World} {r : Nat} {x0 x1 : Value} {t : TypeId} (h : w.heap[r]? = some (.cells #[x0, x1] t (0, 0))) : w.cell? ⟨r, 0, none⟩ = some x0 ∧ w.cell? ⟨r, 1, none⟩ = some x1 :=
  ⟨(blk_cell h 0).trans rfl, (blk_cell h 1).trans rfl⟩
/-- What stands while 'next' goes round. -/
structure NextAt (s : ByteArray) (k b : Nat) (w wr : World) : Prop where
  upd : Upd b (lexObj s k) w wr
  res : wr.heap[w.heap.size]? = some (.cells #[.int .u8 0, .string ⟨#[]⟩, .int .i64 0, .int .i64 0] 31 (0, 0))
  tab : wr.heap[w.heap.size + 1]? = some readObj
theorem NextAt.alloc {s : ByteArray} {k b : Nat} {w wr : World} (h : NextAt s k b w wr) (o : Obj) : NextAt s k b w (wr.alloc o) :=
  ⟨h.upd.alloc o, below_keep ((Below.refl _ _).alloc (Nat.le_refl _) _) h.res, below_keep ((Below.refl _ _).alloc (Nat.le_refl _) _) h.tab⟩
theorem NextAt.drewN {s : ByteArray} {k b : Nat} {w wr : World} (h : NextAt s k b w wr) (n : Nat) : NextAt s k b w (wr.drewN n) := ⟨h.upd.drewN n, h.res, h.tab⟩
/-- A reading handed on: the frame of the caller. -/
theorem ResPost.out {s : ByteArray} {k b : Nat} {w wr w' : World} {r : Except Nat (Nat × List UInt8 × Int × List UInt8)} (h : NextAt s k b w wr) (hu : Upd b (lexObj s (Tk.endR s.size k r)) wr w') (hb : b < w.heap.size) (v0 v1 v2 v3 : Value) :
    Upd b (lexObj s (Tk.endR s.size k r)) w ((((w'.setCell ⟨w.heap.size, 0, none⟩ v0).setCell ⟨w.heap.size, 1, none⟩ v1).setCell ⟨w.heap.size, 2, none⟩ v2).setCell ⟨w.heap.size, 3, none⟩ v3) :=
  (h.upd.trans hu).set4 hb _ _ _ _
theorem next_any (s : ByteArray) (k : Nat) (hk : k < s.size) (hs : s.size ≤ 140737488355328) (b : Nat) (w : World) (hb : w.heap[b]? = some (lexObj s k)) (hE : Env w) (hb12 : 11 ≤ b) :
    Calls Tryd.prog 18 #[.pointer (some ⟨b, 0, none⟩)] w (ResPost s k b w (Tk.next (s.data.toList.drop k))) := by
  have hlt := (Array.getElem?_eq_some_iff.1 hb).1
  have hk' : (k : Int) < (s.size : Int) := by omega
  have hwE : ∀ wr, NextAt s k b w wr → Env wr := fun wr h => hE.upd h.upd hb12
  obtain ⟨lB, hl⟩ : ∃ lB, Tk.letter s[k] = lB := ⟨_, rfl⟩
  obtain ⟨dB, hd⟩ : ∃ dB, Tk.digit s[k] = dB := ⟨_, rfl⟩
  obtain ⟨qB, hq⟩ : ∃ qB, Tk.quote s[k] = qB := ⟨_, rfl⟩
  have hq39 : qB = true → s[k] = 39 := fun h => by
    rw [h] at hq
    simp only [Tk.quote, decide_eq_true_eq] at hq
    exact UInt8.toNat_inj.1 hq
  have hq40 : qB = false → s[k] ≠ 39 := fun h e => by
    rw [h, e] at hq
    revert hq
    decide
  have CL := Lib.hid (byte_int s[k] Tk.letter lB 24 letter_any hl)
  have CD := Lib.hid (byte_int s[k] Tk.digit dB 23 digit_any hd)
  have CQ := Lib.hid (byte_int s[k] Tk.quote qB 35 quote_any hq)
  have RL := Lib.hid (fun (h : lB = true) (wr : World) (hb : NextAt s k b w wr) => word_res s k hk hs b wr hb.upd.now (hl.trans h))
  have RD := Lib.hid (fun (h0 : lB = false) (h : dB = true) (wr : World) (hb : NextAt s k b w wr) => number_res s k hk hs b wr hb.upd.now (hwE _ hb) hb12 (hl.trans h0) (hd.trans h))
  have RQ := Lib.hid (fun (h : qB = true) (wr : World) (hb : NextAt s k b w wr) => text_res s k hk hs b wr hb.upd.now (hq39 h))
  have RS := Lib.hid (fun (h0 : lB = false) (h1 : dB = false) (h : qB = false) (wr : World) (hb : NextAt s k b w wr) => sign_res s k hk hs b wr hb.upd.now (hwE _ hb) (hl.trans h0) (hd.trans h1) (hq40 h))
  generalize Tk.next (s.data.toList.drop k) = r at RL RD RQ RS ⊢
  have HB := Lib.hid hb
  clear hb hE hwE hl hd hq hq39 hq40
  go_enter Tryd.func18, Tryd.ntmps18
  go_wp2_with fail
  have h0 : NextAt s k b w ((w.alloc (.cells #[.int .u8 0, .string ⟨#[]⟩, .int .i64 0, .int .i64 0] 31)).alloc readObj) :=
    ⟨((Upd.refl HB.out).alloc _).alloc _, (Below.heap_alloc _ _ _ (by simp)).trans (alloc_now w _), by have := alloc_now (w.alloc (.cells #[.int .u8 0, .string ⟨#[]⟩, .int .i64 0, .int .i64 0] 31)) readObj; simpa using this⟩
  have H0 := Lib.hid h0
  clear h0 HB
  go_loopg [11] 4 (fun n i wr => ∃ j : Nat, j ≤ 3 ∧ 3 - j < n ∧ i = .int .i64 j ∧ Hid (NextAt s k b w wr) ∧ Hid ((1 ≤ j → lB = false) ∧ (2 ≤ j → dB = false) ∧ (3 ≤ j → qB = false)))
  case atStart => exact ⟨0, by omega, by omega, rfl, H0.out, by omega, by omega, by omega⟩
  case round =>
    clear H0
    obtain ⟨j, hj, hn, rfl, HN, HJ⟩ := hrel
    obtain ⟨t0, t1, t2, t3, t4, t5⟩ := read_cells HN.out.tab
    have hj4 : j = 0 ∨ j = 1 ∨ j = 2 ∨ j = 3 := by omega
    rcases hj4 with rfl | rfl | rfl | rfl
    · go_wp2_with fail
      have N1 := HN.out.alloc (.cells #[.func (.func 24) #[] #[], .func (.func 33) #[] #[]] 54)
      have S1 := alloc_now wr (.cells #[.func (.func 24) #[] #[], .func (.func 33) #[] #[]] 54)
      have HN1 := Lib.hid N1
      have HS1 := Lib.hid S1
      clear N1 S1 HN t0 t1 t2 t3 t4 t5
      generalize wr.alloc (.cells #[.func (.func 24) #[] #[], .func (.func 33) #[] #[]] 54) = W1 at *
      obtain ⟨hc0, hc1, hf1⟩ := lexObj_cells HN1.out.upd.now
      obtain ⟨s0, s1⟩ := cells2 HS1.out
      go_quiet ((go_at_call 24; exact Calls.quiet_of_same (CL.out _)))
      have HN2 := Lib.hid (HN1.out.drewN nq)
      have S2 : (W1.drewN nq).heap[wr.heap.size]? = some (.cells #[.func (.func 24) #[] #[], .func (.func 33) #[] #[]] 54 (0, 0)) := HS1.out
      have HS2 := Lib.hid S2
      clear S2 HN1 HS1 hc0 hc1 hf1 s0 s1
      generalize W1.drewN nq = W2 at *
      obtain ⟨s0, s1⟩ := cells2 HS2.out
      cases lB
      · go_wp2_with fail
        go_roundg (gk - 1)
        case measure => omega
        case rel => exact ⟨1, by omega, by omega, by first | rfl | go_num, HN2.out, fun _ => by first | rfl | trivial, by omega, by omega⟩
      · go_wp2_with (go_at_call 33; refine (RL.out rfl _ HN2.out).mono ?_; rintro e w1 ⟨rfl, hu⟩; obtain ⟨c0, c1, c2, c3, f0, f1, f2, f3⟩ := cells4 (hu.keep HN2.out.res (by omega)))
        refine bodyPost_ret (v := .tuple #[.agg #[.int .u8 (Tk.kindR r), .string ⟨(Tk.textR r).toArray⟩, .int .i64 (Tk.intR r), .int .i64 (Tk.posR k r)], .int .i64 (Tk.errR r)]) (by simp [results, Tryd.results18, go_sem, c0, c1, c2, c3]) rfl ⟨rfl, ?_⟩
        exact ResPost.out HN2.out hu hlt _ _ _ _
    · go_wp2_with fail
      have N1 := HN.out.alloc (.cells #[.func (.func 23) #[] #[], .func (.func 34) #[] #[]] 54)
      have S1 := alloc_now wr (.cells #[.func (.func 23) #[] #[], .func (.func 34) #[] #[]] 54)
      have HN1 := Lib.hid N1
      have HS1 := Lib.hid S1
      clear N1 S1 HN t0 t1 t2 t3 t4 t5
      generalize wr.alloc (.cells #[.func (.func 23) #[] #[], .func (.func 34) #[] #[]] 54) = W1 at *
      obtain ⟨hc0, hc1, hf1⟩ := lexObj_cells HN1.out.upd.now
      obtain ⟨s0, s1⟩ := cells2 HS1.out
      go_quiet ((go_at_call 23; exact Calls.quiet_of_same (CD.out _)))
      have HN2 := Lib.hid (HN1.out.drewN nq)
      have S2 : (W1.drewN nq).heap[wr.heap.size]? = some (.cells #[.func (.func 23) #[] #[], .func (.func 34) #[] #[]] 54 (0, 0)) := HS1.out
      have HS2 := Lib.hid S2
      clear S2 HN1 HS1 hc0 hc1 hf1 s0 s1
      generalize W1.drewN nq = W2 at *
      obtain ⟨s0, s1⟩ := cells2 HS2.out
      cases dB
      · go_wp2_with fail
        go_roundg (gk - 1)
        case measure => omega
        case rel => exact ⟨2, by omega, by omega, by first | rfl | go_num, HN2.out, HJ.out.1 ∘ fun _ => by omega, fun _ => by first | rfl | trivial, by omega⟩
      · go_wp2_with (go_at_call 34; refine (RD.out (HJ.out.1 (by omega)) rfl _ HN2.out).mono ?_; rintro e w1 ⟨rfl, hu⟩; obtain ⟨c0, c1, c2, c3, f0, f1, f2, f3⟩ := cells4 (hu.keep HN2.out.res (by omega)))
        refine bodyPost_ret (v := .tuple #[.agg #[.int .u8 (Tk.kindR r), .string ⟨(Tk.textR r).toArray⟩, .int .i64 (Tk.intR r), .int .i64 (Tk.posR k r)], .int .i64 (Tk.errR r)]) (by simp [results, Tryd.results18, go_sem, c0, c1, c2, c3]) rfl ⟨rfl, ?_⟩
        exact ResPost.out HN2.out hu hlt _ _ _ _
    · go_wp2_with fail
      have N1 := HN.out.alloc (.cells #[.func (.func 35) #[] #[], .func (.func 36) #[] #[]] 54)
      have S1 := alloc_now wr (.cells #[.func (.func 35) #[] #[], .func (.func 36) #[] #[]] 54)
      have HN1 := Lib.hid N1
      have HS1 := Lib.hid S1
      clear N1 S1 HN t0 t1 t2 t3 t4 t5
      generalize wr.alloc (.cells #[.func (.func 35) #[] #[], .func (.func 36) #[] #[]] 54) = W1 at *
      obtain ⟨hc0, hc1, hf1⟩ := lexObj_cells HN1.out.upd.now
      obtain ⟨s0, s1⟩ := cells2 HS1.out
      go_quiet ((go_at_call 35; exact Calls.quiet_of_same (CQ.out _)))
      have HN2 := Lib.hid (HN1.out.drewN nq)
      have S2 : (W1.drewN nq).heap[wr.heap.size]? = some (.cells #[.func (.func 35) #[] #[], .func (.func 36) #[] #[]] 54 (0, 0)) := HS1.out
      have HS2 := Lib.hid S2
      clear S2 HN1 HS1 hc0 hc1 hf1 s0 s1
      generalize W1.drewN nq = W2 at *
      obtain ⟨s0, s1⟩ := cells2 HS2.out
      cases qB
      · go_wp2_with fail
        go_roundg (gk - 1)
        case measure => omega
        case rel => exact ⟨3, by omega, by omega, by first | rfl | go_num, HN2.out, HJ.out.1 ∘ fun _ => by omega, HJ.out.2.1 ∘ fun _ => by omega, fun _ => by first | rfl | trivial⟩
      · go_wp2_with (go_at_call 36; refine (RQ.out rfl _ HN2.out).mono ?_; rintro e w1 ⟨rfl, hu⟩; obtain ⟨c0, c1, c2, c3, f0, f1, f2, f3⟩ := cells4 (hu.keep HN2.out.res (by omega)))
        refine bodyPost_ret (v := .tuple #[.agg #[.int .u8 (Tk.kindR r), .string ⟨(Tk.textR r).toArray⟩, .int .i64 (Tk.intR r), .int .i64 (Tk.posR k r)], .int .i64 (Tk.errR r)]) (by simp [results, Tryd.results18, go_sem, c0, c1, c2, c3]) rfl ⟨rfl, ?_⟩
        exact ResPost.out HN2.out hu hlt _ _ _ _
    · go_wp2_with (go_at_call 37; refine (RS.out (HJ.out.1 (by omega)) (HJ.out.2.1 (by omega)) (HJ.out.2.2 (by omega)) _ HN.out).mono ?_; rintro e w1 ⟨rfl, hu⟩; obtain ⟨c0, c1, c2, c3, f0, f1, f2, f3⟩ := cells4 (hu.keep HN.out.res (by omega)))
      refine bodyPost_ret (v := .tuple #[.agg #[.int .u8 (Tk.kindR r), .string ⟨(Tk.textR r).toArray⟩, .int .i64 (Tk.intR r), .int .i64 (Tk.posR k r)], .int .i64 (Tk.errR r)]) (by simp [results, Tryd.results18, go_sem, c0, c1, c2, c3]) rfl ⟨rfl, ?_⟩
      exact ResPost.out HN.out hu hlt _ _ _ _
end Go.Proofs.YteoleblodhgheaaDoor
