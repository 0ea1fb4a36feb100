import Derived.Test.YteoleblodhgheaaDoorTok
namespace Go.Proofs.YteoleblodhgheaaDoor
open Go.RowKit
set_option maxHeartbeats 400000
theorem found_any (s : ByteArray) (k k2 : Nat) (kd : Int) (tx : ByteArray) (i a : Int) (b : Nat) (w : World) (hb : w.heap[b]? = some (lexObj s k)) :
    Calls Tryd.prog 43 #[.pointer (some ⟨b, 0, none⟩), .agg #[.int .u8 kd, .string tx, .int .i64 i, .int .i64 a], .int .i64 k2] w fun e w' =>
      e = .returned (.tuple #[.agg #[.int .u8 kd, .string tx, .int .i64 i, .int .i64 k], .int .i64 0]) ∧ Upd b (lexObj s k2) w w' := by
  obtain ⟨hc0, hc1, hf1⟩ := lexObj_cells hb
  have hlt := (Array.getElem?_eq_some_iff.1 hb).1
  have HB := Lib.hid hb
  clear hb
  go_enter Tryd.func43, Tryd.ntmps43
  go_wp2
  refine bodyPost_ret (v := .tuple #[.agg #[.int .u8 kd, .string tx, .int .i64 i, .int .i64 k], .int .i64 0]) (by simp [results, Tryd.results43, go_sem]) rfl ⟨rfl, ?_⟩
  exact (((Upd.refl HB.out).set 1 _).alloc _).alloc _

/-- A reading of 'word': a token, or ErrLong. -/
def tokV (kd : Nat) (tx : List UInt8) (i : Int) (a : Nat) : Value := .agg #[.int .u8 kd, .string ⟨tx.toArray⟩, .int .i64 i, .int .i64 a]
def zeroTok : Value := .agg #[.int .u8 0, .string ⟨#[]⟩, .int .i64 0, .int .i64 0]

theorem word_long (s : ByteArray) (k : Nat) (hk : k ≤ s.size) (hs : s.size ≤ 9223372036854775806) (b : Nat) (w : World) (hb : w.heap[b]? = some (lexObj s k)) (k1 : Nat) (hk1 : k1 = Tk.far Tk.alnum s.data.toList k) (hlong : 32 < k1 - k) :
    Calls Tryd.prog 33 #[.pointer (some ⟨b, 0, none⟩)] w fun e w' => e = .returned (.tuple #[zeroTok, .int .i64 2]) ∧ Upd b (lexObj s k) w w' := by
  obtain ⟨hc0, hc1, hf1⟩ := lexObj_cells hb
  have hlt := (Array.getElem?_eq_some_iff.1 hb).1
  obtain ⟨hge, hle, F⟩ := far_k s k hk hs 42 Tk.alnum (fun _ _ => by kernel_rfl) alnum_any k1 hk1
  clear hk1
  have FH := Lib.hid F
  clear F
  have HB := Lib.hid hb
  clear hb
  go_enter Tryd.func33, Tryd.ntmps33
  go_wp2_with (go_at_call 29; refine (FH.out _ _ k ((Upd.refl HB.out).alloc _).now).mono ?_; rintro e w' ⟨rfl, rfl⟩)
  refine bodyPost_ret (v := .tuple #[zeroTok, .int .i64 2]) (by simp [zeroTok, results, Tryd.results33, go_sem]) rfl ⟨rfl, ?_⟩
  exact (Upd.refl HB.out).alloc _
theorem lowerB_eq (c : UInt8) : Lib.lowerB c = Tk.lower1 c := by
  unfold Lib.lowerB Lib.isUpperB Tk.lower1
  simp [UInt8.le_iff_toNat_le]
theorem word_short (s : ByteArray) (k : Nat) (hk : k ≤ s.size) (hs : s.size ≤ 140737488355328) (b : Nat) (w : World) (hb : w.heap[b]? = some (lexObj s k)) (k1 : Nat) (hk1 : k1 = Tk.far Tk.alnum s.data.toList k) (hlong : k1 - k ≤ 32) :
    Calls Tryd.prog 33 #[.pointer (some ⟨b, 0, none⟩)] w fun e w' => e = .returned (.tuple #[tokV 1 (((s.data.toList.drop k).takeWhile Tk.alnum).map Tk.lower1) 0 k, .int .i64 0]) ∧ Upd b (lexObj s k1) w w' := by
  obtain ⟨hc0, hc1, hf1⟩ := lexObj_cells hb
  have hlt := (Array.getElem?_eq_some_iff.1 hb).1
  obtain ⟨hge, hle, F⟩ := far_k s k hk (by omega) 42 Tk.alnum (fun _ _ => by kernel_rfl) alnum_any k1 hk1
  have htk : (s.data.toList.drop k).take (k1 - k) = (s.data.toList.drop k).takeWhile Tk.alnum := by rw [hk1]; exact Tk.take_far _ _ _
  have hasc : ∀ (j : Nat) (b : UInt8), (s.extract k k1).data.toList[j]? = some b → b.toNat < 128 := by
    intro j c hj
    rw [Lib.extract_data, htk] at hj
    exact Tk.alnum_ascii (Tk.takeWhile_all _ _ _ (List.mem_of_getElem? hj))
  have hlow : Lib.toLowerA (List.take (k1 - k) (List.drop k s.data.toList)) = ((s.data.toList.drop k).takeWhile Tk.alnum).map Tk.lower1 := by
    rw [htk]
    exact List.map_congr_left fun c _ => lowerB_eq c
  rw [← hlow]
  clear htk
  clear hk1 hlow
  have HA := Lib.hid hasc
  clear hasc
  have FH := Lib.hid F
  clear F
  have HB := Lib.hid hb
  clear hb
  go_enter Tryd.func33, Tryd.ntmps33
  go_wp2_with (go_at_call 29; refine (FH.out _ _ k ((Upd.refl HB.out).alloc _).now).mono ?_; rintro e w' ⟨rfl, rfl⟩)
  go_region_with (first
    | (go_at_call 44; refine (Tryd.strings_ToLower_ascii _ _ ?_ HA.out).mono ?_; (simp; omega); rintro e w1 ⟨rfl, hb1⟩)
    | (go_at_call 43; refine (found_any s k k1 _ _ _ _ b _ ?_).mono ?_; exact (hb1.block b (by simp; omega)).trans ((Below.heap_alloc _ _ _ hlt).trans HB.out); rintro e w2 ⟨rfl, hu⟩; obtain ⟨c0, c1, c2, c3, f0, f1, f2, f3⟩ := cells4 (hu.keep (below_keep hb1 (alloc_now w _)) (by omega))))
  all_goals
    go_wp2_with fail
    refine bodyPost_ret (v := .tuple #[tokV 1 (Lib.toLowerA (List.take (k1 - k) (List.drop k s.data.toList))) 0 k, .int .i64 0]) (by simp [tokV, results, Tryd.results33, go_sem, c0, c1, c2, c3]) rfl ⟨rfl, ?_⟩
    have h1 : Upd b (lexObj s k1) w w2 := ((((Upd.refl HB.out).alloc _).drew).below (by simp; omega) hb1).trans hu
    exact (((h1.setNew (Nat.le_refl _) (by omega) 0 _).setNew (Nat.le_refl _) (by omega) 1 _).setNew (Nat.le_refl _) (by omega) 2 _).setNew (Nat.le_refl _) (by omega) 3 _

theorem text_ops : True := trivial
end Go.Proofs.YteoleblodhgheaaDoor
