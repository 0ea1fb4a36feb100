/- The reference's word, further: a sign; and whatever word. -/
import Derived.Test.YteoleblodhgheaaDoorTokW
namespace Go.Proofs.YteoleblodhgheaaDoor
open Go.RowKit
set_option maxHeartbeats 400000
theorem ext_len (s : ByteArray) (k n : Nat) (h : k + n ≤ s.size) : (s.extract k (k + n)).toList = (s.data.toList.drop k).take n := by
  rw [ByteArray.toList_eq, Lib.extract_data, Nat.add_sub_cancel_left]
theorem pre_iff (g l : List UInt8) : (l.take g.length == g) = g.isPrefixOf l := by
  rw [Bool.eq_iff_iff, beq_iff_eq, List.isPrefixOf_iff_prefix, List.prefix_iff_eq_take]
  exact eq_comm
theorem signs_pos (j : Nat) (h : j < Tk.signs.length) : 1 ≤ (Tk.signs[j]).length := by
  have : ∀ x ∈ Tk.signs, 1 ≤ x.length := by decide
  exact this _ (List.getElem_mem h)
set_option maxRecDepth 100000 in
set_option maxHeartbeats 4000000 in
theorem rone_sign (s : ByteArray) (k : Nat) (hk : k < s.size) (hs : s.size ≤ 8192) (w : World) (h1 : Tk.letter s[k] = false) (h2 : Tk.digit s[k] = false) (h3 : s[k] ≠ 39) :
    Calls Tryd.prog 20 #[.string s, .int .i64 k] w (OneR s k w (Tk.next (s.data.toList.drop k))) := by
  have hn : Tk.next (s.data.toList.drop k) = match Tk.signOf (s.data.toList.drop k) 0 with | none => .error 30 | some g => .ok (4, g, 0, (s.data.toList.drop k).drop g.length) := by
    rw [drop_at s k hk, Tk.next, if_neg (by simp [h1]), if_neg (by simp [h2]), if_neg h3]
    rfl
  have hll : (s.data.toList.drop k).length = s.size - k := by rw [List.length_drop, Array.length_toList]; rfl
  generalize hR : Tk.signOf (s.data.toList.drop k) 0 = R at *
  generalize Tk.next (s.data.toList.drop k) = RR at *
  have hE : R = none → RR = .error 30 := by rintro rfl; exact hn
  have hO : ∀ g, R = some g → RR = .ok (4, g, 0, (s.data.toList.drop k).drop g.length) := by rintro g rfl; exact hn
  have hc3 : ((s[k].toNat : Int) == 39) = false := by
    rw [beq_eq_false_iff_ne]
    intro e
    exact h3 (byte_eq (n := 39) (by decide) e)
  have C0 := Lib.hid (rbyte_is s[k] Tk.letter false 25 rletter_any h1)
  have C9 := Lib.hid (rbyte_is s[k] Tk.digit false 26 rdigit_any h2)
  have HE := Lib.hid hE
  have HO := Lib.hid hO
  have HR := Lib.hid hR
  have HLL := Lib.hid hll
  clear hE hO hR hn h1 h2 h3 hll
  go_enter Tryd.func20, Tryd.ntmps20
  go_wp2_with (first | (go_at_call 25; refine (C0.out _).mono ?_; rintro e w' ⟨rfl, rfl⟩) | (go_at_call 26; refine (C9.out _).mono ?_; rintro e w' ⟨rfl, rfl⟩))
  have HB := Lib.hid (((Below.refl w.heap.size w).alloc (Nat.le_refl _) (.cells #[.int .u8 0, .string ⟨#[]⟩, .int .i64 0, .int .i64 0] 31)).alloc (by simp) (.cells (Tk.signs.map fun l => Value.string ⟨l.toArray⟩).toArray 9))
  have hN : ((w.alloc (.cells #[.int .u8 0, .string ⟨#[]⟩, .int .i64 0, .int .i64 0] 31)).alloc (.cells (Tk.signs.map fun l => Value.string ⟨l.toArray⟩).toArray 9)).heap[w.heap.size]? = some (.cells #[.int .u8 0, .string ⟨#[]⟩, .int .i64 0, .int .i64 0] 31 (0, 0)) := (Below.heap_alloc _ _ _ (by simp)).trans (alloc_now w _)
  have hS : ((w.alloc (.cells #[.int .u8 0, .string ⟨#[]⟩, .int .i64 0, .int .i64 0] 31)).alloc (.cells (Tk.signs.map fun l => Value.string ⟨l.toArray⟩).toArray 9)).heap[w.heap.size + 1]? = some (.cells (Tk.signs.map fun l => Value.string ⟨l.toArray⟩).toArray 9 (0, 0)) := by
    have := alloc_now (w.alloc (.cells #[.int .u8 0, .string ⟨#[]⟩, .int .i64 0, .int .i64 0] 31)) (.cells (Tk.signs.map fun l => Value.string ⟨l.toArray⟩).toArray 9)
    simpa using this
  have HN := Lib.hid hN
  have HS := Lib.hid hS
  clear C0 C9 hc3 hN hS
  go_loopg [8, 13] 16 (fun n o i wr => ∃ j : Nat, j ≤ 15 ∧ 15 - j < n ∧ i = .int .i64 j ∧ Hid (Tk.signOf (s.data.toList.drop k) j = R) ∧ Hid (Below w.heap.size w wr) ∧
      Hid (wr.heap[w.heap.size]? = some (.cells #[.int .u8 0, .string ⟨#[]⟩, .int .i64 0, .int .i64 0] 31 (0, 0))) ∧ Hid (wr.heap[w.heap.size + 1]? = some (.cells (Tk.signs.map fun l => Value.string ⟨l.toArray⟩).toArray 9 (0, 0))))
  case atStart => exact ⟨0, by omega, by omega, rfl, HR.out, HB.out, HN.out, HS.out⟩
  case round =>
    clear HR HB HN HS
    obtain ⟨j, hj, hn, rfl, HR, HB, HN, HS⟩ := hrel
    by_cases hlt : j < 15
    · have hjl : j < Tk.signs.length := hlt
      have hc := sign_cell HS.out j hjl
      have hlen := signs_len j hjl
      have hY := Tk.signOf_yes (s.data.toList.drop k) j hjl
      have hN := Tk.signOf_no (s.data.toList.drop k) j hjl
      generalize Tk.signs[j] = sg at *
      have HY := Lib.hid hY
      have HNO := Lib.hid hN
      clear hY hN hjl
      by_cases hin : k + sg.length ≤ s.size
      · have hpf : ((s.extract k (k + sg.length)).toList == sg) = sg.isPrefixOf (s.data.toList.drop k) := by
          rw [ext_len s k _ hin, pre_iff]
        generalize sg.isPrefixOf (s.data.toList.drop k) = pf at *
        have hg : decide (k + sg.length ≤ s.size) = true := decide_eq_true hin
        have hg2 : decide ((k : Int) + (sg.length : Int) ≤ (s.size : Int)) = true := decide_eq_true (by omega)
        go_wp2_with fail
        refine wp_region_quiet_lit (by kernel_rfl) (by kernel_rfl) ?_
        repeat (any_goals (first | go_big_quiet_step (fail) | quiet_step (fail)))
        refine wpQuiet_nil ?_
        intro _ hw'
        obtain ⟨nq, hw''⟩ := hw'
        subst hw''
        have HB2 := Lib.hid (pw_drewN HB.out nq)
        have HN2 := Lib.hid (show (wr.drewN nq).heap[w.heap.size]? = some (.cells #[.int .u8 0, .string ⟨#[]⟩, .int .i64 0, .int .i64 0] 31 (0, 0)) from HN.out)
        have HS2 := Lib.hid (show (wr.drewN nq).heap[w.heap.size + 1]? = some (.cells (Tk.signs.map fun l => Value.string ⟨l.toArray⟩).toArray 9 (0, 0)) from HS.out)
        have hc2 : (wr.drewN nq).cell? ⟨w.heap.size + 1, j, none⟩ = some (.string ⟨sg.toArray⟩) := hc
        clear HB HN HS hc
        generalize wr.drewN nq = w3 at *
        cases pf
        · have hR := (HNO.out rfl).symm.trans HR.out
          have HR2 := Lib.hid hR
          clear hR HY HNO HR
          go_wp2_with fail
          go_roundg (gk - 1)
          case measure => omega
          case rel => exact ⟨j + 1, by omega, by omega, by push_cast; rfl, HR2.out, HB2.out, HN2.out, HS2.out⟩
        · have hR := (HY.out rfl).symm.trans HR.out
          obtain rfl := HO.out _ hR.symm
          clear hR HY HNO HR HO HE
          obtain ⟨c0, c1, c2, c3, f0, f1, f2, f3⟩ := cells4 HN2.out
          go_wp2_with fail
          refine bodyPost_ret (v := .tuple #[.agg #[.int .u8 4, .string ⟨sg.toArray⟩, .int .i64 0, .int .i64 k], .int .i64 ((k : Int) + (sg.length : Int)), .int .i64 0]) (by simp [results, Tryd.results20, go_sem, c0, c1, c2, c3]) rfl ⟨?_, ?_⟩
          · show _ = Ending.returned (.tuple #[_, .int .i64 ((s.size - ((s.data.toList.drop k).drop sg.length).length : Nat) : Int), _])
            rw [List.length_drop, HLL.out, show s.size - (s.size - k - sg.length) = k + sg.length from by omega]
            rfl
          · exact below_set4 HB2.out (Nat.le_refl _) _ _ _ _
      · have hpf : sg.isPrefixOf (s.data.toList.drop k) = false := by
          cases h : sg.isPrefixOf (s.data.toList.drop k) with
          | false => rfl
          | true =>
            have := (List.isPrefixOf_iff_prefix.1 h).length_le
            rw [HLL.out] at this
            omega
        have hR := (HNO.out hpf).symm.trans HR.out
        have HR2 := Lib.hid hR
        clear hR HY HNO HR hpf
        have hg : decide (k + sg.length ≤ s.size) = false := decide_eq_false hin
        have hg2 : decide ((k : Int) + (sg.length : Int) ≤ (s.size : Int)) = false := decide_eq_false (by omega)
        go_wp2_with fail
        refine wp_region_quiet_lit (by kernel_rfl) (by kernel_rfl) ?_
        repeat (any_goals (first | go_big_quiet_step (fail) | quiet_step (fail)))
        refine wpQuiet_nil ?_
        intro _ hw'
        obtain ⟨nq, hw''⟩ := hw'
        subst hw''
        have HB2 := Lib.hid (pw_drewN HB.out nq)
        have HN2 := Lib.hid (show (wr.drewN nq).heap[w.heap.size]? = some (.cells #[.int .u8 0, .string ⟨#[]⟩, .int .i64 0, .int .i64 0] 31 (0, 0)) from HN.out)
        have HS2 := Lib.hid (show (wr.drewN nq).heap[w.heap.size + 1]? = some (.cells (Tk.signs.map fun l => Value.string ⟨l.toArray⟩).toArray 9 (0, 0)) from HS.out)
        clear HB HN HS hc
        generalize wr.drewN nq = w3 at *
        go_wp2_with fail
        go_roundg (gk - 1)
        case measure => omega
        case rel => exact ⟨j + 1, by omega, by omega, by push_cast; rfl, HR2.out, HB2.out, HN2.out, HS2.out⟩
    · obtain rfl : j = 15 := by omega
      have hR := (Tk.signOf_end _).symm.trans HR.out
      obtain rfl := HE.out hR.symm
      clear HR HO HE hR
      obtain ⟨c0, c1, c2, c3, f0, f1, f2, f3⟩ := cells4 HN.out
      go_wp2_with fail
      refine bodyPost_ret (v := .tuple #[.agg #[.int .u8 0, .string ⟨#[]⟩, .int .i64 0, .int .i64 0], .int .i64 0, .int .i64 30]) (by simp [results, Tryd.results20, go_sem, c0, c1, c2, c3]) rfl ⟨rfl, ?_⟩
      exact below_set4 HB.out (Nat.le_refl _) _ _ _ _
theorem rone_any (s : ByteArray) (k : Nat) (hk : k < s.size) (hs : s.size ≤ 8192) (w : World) :
    Calls Tryd.prog 20 #[.string s, .int .i64 k] w (OneR s k w (Tk.next (s.data.toList.drop k))) := by
  cases h1 : Tk.letter s[k] with
  | true => exact rone_word s k hk hs w h1
  | false =>
    cases h2 : Tk.digit s[k] with
    | true => exact rone_number s k hk hs w h1 h2
    | false =>
      by_cases h3 : s[k] = 39
      · exact rone_text s k hk hs w h3
      · exact rone_sign s k hk hs w h1 h2 h3
end Go.Proofs.YteoleblodhgheaaDoor
