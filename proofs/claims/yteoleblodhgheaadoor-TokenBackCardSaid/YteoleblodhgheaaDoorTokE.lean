import Derived.Test.YteoleblodhgheaaDoorTokD
import Derived.Test.YteoleblodhgheaaDoorPTok2
import Derived.Lib.LaidTab
namespace Go.Proofs.YteoleblodhgheaaDoor
open Go.RowKit
set_option maxHeartbeats 400000
/-- What the library's tables hold. -/
structure Env (w : World) : Prop where
  space : Lib.TabIs Tryd.prog w "strings.asciiSpace" .u8 Lib.asciiSpaceTab
  range : ∃ tp pv, w.cell? ⟨4, 0, none⟩ = some (.iface tp pv)
  size : 11 ≤ w.heap.size
theorem gSpace : Tryd.prog.globalNamed "strings.asciiSpace" = some 0 := by kernel_rfl
theorem Env.keep {w w' : World} (h : Env w) (hk : ∀ k, k < 11 → w'.heap[k]? = w.heap[k]?) (hs : w.heap.size ≤ w'.heap.size) : Env w' := by
  refine ⟨?_, ?_, Nat.le_trans h.size hs⟩
  · have := h.space
    unfold Lib.TabIs World.var? at this ⊢
    rw [gSpace] at this ⊢
    simp only [Option.bind_some] at this ⊢
    rw [hk _ (by omega)]
    exact this
  · obtain ⟨tp, pv, hc⟩ := h.range
    exact ⟨tp, pv, (World.cell?_of_block (hk _ (by show 4 < 11; omega))).trans hc⟩
theorem Env.below {w w' : World} (h : Env w) (hb : Below w.heap.size w w') : Env w' := h.keep (fun k hk => hb.block k (by have := h.size; omega)) hb.size
theorem Env.upd {w w' : World} {b : Nat} {o : Obj} (h : Env w) (hu : Upd b o w w') (hb : 11 ≤ b) : Env w' := h.keep (fun k hk => hu.block k (by have := h.size; omega) (by omega)) hu.size
theorem Env.alloc {w : World} (h : Env w) (o : Obj) : Env (w.alloc o) := h.below ((Below.refl _ _).alloc (Nat.le_refl _) _)
theorem Env.drewN {w : World} (h : Env w) (n : Nat) : Env (w.drewN n) := ⟨h.space, h.range, h.size⟩

theorem fields_signs (w : World) (h : Env w) : Calls Tryd.prog 40 #[.string { data := #[60, 62, 32, 60, 61, 32, 62, 61, 32, 40, 32, 41, 32, 44, 32, 42, 32, 43, 32, 45, 32, 47, 32, 37, 32, 61, 32, 60, 32, 62, 32, 59] }] w fun e w' =>
    e = .returned (.slice (some ⟨w.heap.size, 0, none⟩) 15 15) ∧ w' = w.alloc (.cells (Tk.signs.map fun l => Value.string ⟨l.toArray⟩).toArray 9) := by
  have hF : Lib.fields (ByteArray.mk #[60, 62, 32, 60, 61, 32, 62, 61, 32, 40, 32, 41, 32, 44, 32, 42, 32, 43, 32, 45, 32, 47, 32, 37, 32, 61, 32, 60, 32, 62, 32, 59]).data.toList = Tk.signs := by decide
  have := Tryd.strings_Fields (ByteArray.mk #[60, 62, 32, 60, 61, 32, 62, 61, 32, 40, 32, 41, 32, 44, 32, 42, 32, 43, 32, 45, 32, 47, 32, 37, 32, 61, 32, 60, 32, 62, 32, 59]) w (by decide) (by
    have hall : (ByteArray.mk #[60, 62, 32, 60, 61, 32, 62, 61, 32, 40, 32, 41, 32, 44, 32, 42, 32, 43, 32, 45, 32, 47, 32, 37, 32, 61, 32, 60, 32, 62, 32, 59]).data.toList.all (fun b => b.toNat < 128) = true := by decide
    intro j b hb
    simpa using List.all_eq_true.1 hall b (List.mem_of_getElem? hb)) h.space
  rw [hF] at this
  exact this
/-- What 'sign' hands back. -/
def SignPost (s : ByteArray) (k : Nat) (b : Nat) (w : World) : Option (List UInt8) → Ending → World → Prop
  | none, e, w' => e = .returned (.tuple #[zeroTok, .int .i64 30]) ∧ Upd b (lexObj s k) w w'
  | some g, e, w' => e = .returned (.tuple #[tokV 4 g 0 k, .int .i64 0]) ∧ Upd b (lexObj s (k + g.length)) w w'
theorem sign_cell {w : World} {A : Nat} (h : w.heap[A]? = some (.cells (Tk.signs.map fun l => Value.string ⟨l.toArray⟩).toArray 9 (0, 0))) (j : Nat) (hj : j < Tk.signs.length) :
    w.cell? ⟨A, j, none⟩ = some (.string ⟨(Tk.signs[j]).toArray⟩) := by
  rw [blk_cell h]
  simp [hj]
theorem found_plus (s : ByteArray) (k q : Nat) (kd : Int) (tx : ByteArray) (i a : Int) (b : Nat) (w : World) (hb : w.heap[b]? = some (lexObj s k)) :
    Calls Tryd.prog 43 #[.pointer (some ⟨b, 0, none⟩), .agg #[.int .u8 kd, .string tx, .int .i64 i, .int .i64 a], .int .i64 ((k : Int) + (q : Int))] w fun e w' =>
      e = .returned (.tuple #[.agg #[.int .u8 kd, .string tx, .int .i64 i, .int .i64 k], .int .i64 0]) ∧ Upd b (lexObj s (k + q)) w w' := by
  have h := found_any s k (k + q) kd tx i a b w hb
  rw [Int.natCast_add] at h
  exact h
theorem signs_len (j : Nat) (h : j < Tk.signs.length) : (Tk.signs[j]).length ≤ 2 := by
  have : ∀ x ∈ Tk.signs, x.length ≤ 2 := by decide
  exact this _ (List.getElem_mem h)
theorem sign_any (s : ByteArray) (k : Nat) (hk : k ≤ s.size) (hs : s.size ≤ 140737488355328) (b : Nat) (w : World) (hb : w.heap[b]? = some (lexObj s k)) (hE : Env w) :
    Calls Tryd.prog 37 #[.pointer (some ⟨b, 0, none⟩)] w (SignPost s k b w (Tk.signOf (s.data.toList.drop k) 0)) := by
  have hlt := (Array.getElem?_eq_some_iff.1 hb).1
  have HB := Lib.hid hb
  have HE := Lib.hid hE
  clear hb hE
  generalize hR : Tk.signOf (s.data.toList.drop k) 0 = R
  have HR := Lib.hid hR
  clear hR
  go_enter Tryd.func37, Tryd.ntmps37
  go_wp2_with (go_at_call 40; refine (fields_signs _ (HE.out.alloc _)).mono ?_; rintro e w' ⟨rfl, rfl⟩)
  have h1 : Upd b (lexObj s k) w ((w.alloc (.cells #[.int .u8 0, .string ⟨#[]⟩, .int .i64 0, .int .i64 0] 31)).alloc (.cells (Tk.signs.map fun l => Value.string ⟨l.toArray⟩).toArray 9)) := ((Upd.refl HB.out).alloc _).alloc _
  have h2 : ((w.alloc (.cells #[.int .u8 0, .string ⟨#[]⟩, .int .i64 0, .int .i64 0] 31)).alloc (.cells (Tk.signs.map fun l => Value.string ⟨l.toArray⟩).toArray 9)).heap[w.heap.size]? = some (.cells #[.int .u8 0, .string ⟨#[]⟩, .int .i64 0, .int .i64 0] 31 (0, 0)) := (Below.heap_alloc _ _ _ (by simp)).trans (alloc_now w _)
  have h3 : ((w.alloc (.cells #[.int .u8 0, .string ⟨#[]⟩, .int .i64 0, .int .i64 0] 31)).alloc (.cells (Tk.signs.map fun l => Value.string ⟨l.toArray⟩).toArray 9)).heap[w.heap.size + 1]? = some (.cells (Tk.signs.map fun l => Value.string ⟨l.toArray⟩).toArray 9 (0, 0)) := by
    have := alloc_now (w.alloc (.cells #[.int .u8 0, .string ⟨#[]⟩, .int .i64 0, .int .i64 0] 31)) (.cells (Tk.signs.map fun l => Value.string ⟨l.toArray⟩).toArray 9)
    simpa using this
  have H1 := Lib.hid h1
  have H2 := Lib.hid h2
  have H3 := Lib.hid h3
  clear h1 h2 h3
  generalize (w.alloc (.cells #[.int .u8 0, .string ⟨#[]⟩, .int .i64 0, .int .i64 0] 31)).alloc (.cells (Tk.signs.map fun l => Value.string ⟨l.toArray⟩).toArray 9) = W at *
  go_loopg [8] 15 (fun n i wr => ∃ j : Nat, j ≤ 15 ∧ 15 - j ≤ n ∧ i = .int .i64 j ∧ Hid (Tk.signOf (s.data.toList.drop k) j = R) ∧ Hid (Upd b (lexObj s k) w wr) ∧
      Hid (wr.heap[w.heap.size]? = some (.cells #[.int .u8 0, .string ⟨#[]⟩, .int .i64 0, .int .i64 0] 31 (0, 0))) ∧ Hid (wr.heap[w.heap.size + 1]? = some (.cells (Tk.signs.map fun l => Value.string ⟨l.toArray⟩).toArray 9 (0, 0))))
  case atStart => exact ⟨0, by omega, by omega, rfl, HR.out, H1.out, H2.out, H3.out⟩
  case round =>
    clear H1 H2 H3 HR
    obtain ⟨j, hj, hn, rfl, HR, H1, H2, H3⟩ := hrel
    by_cases hlt2 : j < 15
    · have hjl : j < Tk.signs.length := hlt2
      have hc := sign_cell H3.out j hjl
      have hlen := signs_len j hjl
      have hY := Tk.signOf_yes (s.data.toList.drop k) j hjl
      have hN := Tk.signOf_no (s.data.toList.drop k) j hjl
      have hpf : Lib.hasPrefix (s.extract k s.size).data.toList (ByteArray.mk (Tk.signs[j]).toArray).data.toList = (Tk.signs[j]).isPrefixOf (s.data.toList.drop k) := by
        rw [Lib.extract_to_end]
        rfl
      generalize Tk.signs[j] = sg at hc hlen hY hN hpf
      have HY := Lib.hid hY
      have HN := Lib.hid hN
      have HPF := Lib.hid hpf
      obtain ⟨hc0, hc1, hf1⟩ := lexObj_cells H1.out.now
      clear hY hN hpf hjl
      go_wp2_with fail
      go_quiet ((go_at_call 31; exact Calls.quiet_of_same (Tryd.strings_HasPrefix _ _ _)))
      rw [HPF.out]
      generalize sg.isPrefixOf (s.data.toList.drop k) = pf at HY HN
      have h1 : Upd b (lexObj s k) w (wr.drewN nq) := H1.out.drewN nq
      have h2 : (wr.drewN nq).heap[w.heap.size]? = some (.cells #[.int .u8 0, .string ⟨#[]⟩, .int .i64 0, .int .i64 0] 31 (0, 0)) := H2.out
      have h3 : (wr.drewN nq).heap[w.heap.size + 1]? = some (.cells (Tk.signs.map fun l => Value.string ⟨l.toArray⟩).toArray 9 (0, 0)) := H3.out
      have H4 := Lib.hid h1
      have H5 := Lib.hid h2
      have H6 := Lib.hid h3
      clear h1 h2 h3 H1 H2 H3 hc hc0 hc1 hf1 HPF
      generalize wr.drewN nq = w3 at *
      obtain ⟨hc0, hc1, hf1⟩ := lexObj_cells H4.out.now
      cases pf
      · have hR := (HN.out rfl).symm.trans HR.out
        have HR2 := Lib.hid hR
        clear hR HY HN HR
        go_wp2_with fail
        go_roundg (gk - 1)
        case measure => omega
        case rel => exact ⟨j + 1, by omega, by omega, by go_num, HR2.out, H4.out, H5.out, H6.out⟩
      · have hR := (HY.out rfl).symm.trans HR.out
        subst hR
        have hsz : ({ data := sg.toArray } : ByteArray).size = sg.length := by simp [ByteArray.size]
        have HSZ := Lib.hid hsz
        clear hsz HY HN HR
        generalize hq : ({ data := sg.toArray } : ByteArray).size = q at *
        have hq2 : q ≤ 2 := by have := HSZ.out; omega
        go_wp2_with (go_at_call 43; refine (found_plus s k q _ _ _ _ b _ H4.out.now).mono ?_; rintro e w2 ⟨rfl, hu⟩; obtain ⟨d0, d1, d2, d3, g0, g1, g2, g3⟩ := cells4 (hu.keep H5.out (by omega)))
        refine bodyPost_ret (v := .tuple #[tokV 4 sg 0 k, .int .i64 0]) (by simp [tokV, results, Tryd.results37, go_sem, d0, d1, d2, d3]) rfl ⟨rfl, ?_⟩
        rw [← HSZ.out]
        exact (H4.out.trans hu).set4 (by omega) _ _ _ _
    · have hj15 : j = 15 := by omega
      subst hj15
      have hR := (Tk.signOf_end _).symm.trans HR.out
      subst hR
      obtain ⟨d0, d1, d2, d3, g0, g1, g2, g3⟩ := cells4 H2.out
      go_wp2_with fail
      refine bodyPost_ret (v := .tuple #[zeroTok, .int .i64 30]) (by simp [zeroTok, results, Tryd.results37, go_sem, d0, d1, d2, d3]) rfl ⟨rfl, ?_⟩
      exact H1.out.set4 (by omega) _ _ _ _
end Go.Proofs.YteoleblodhgheaaDoor
