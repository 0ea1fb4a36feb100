import Derived.Test.YteoleblodhgheaaDoorTok
namespace Go.Proofs.YteoleblodhgheaaDoor
open Go.RowKit
set_option maxHeartbeats 400000
theorem skip_any (s : ByteArray) (k0 : Nat) (hk0 : k0 ≤ s.size) (hs : s.size ≤ 9223372036854775806) (b : Nat) (w : World) (hb : w.heap[b]? = some (lexObj s k0)) :
    Calls Tryd.prog 17 #[.pointer (some ⟨b, 0, none⟩)] w fun e w' => e = .returned (.tuple #[]) ∧ Upd b (lexObj s (Tk.skipAt s.data.toList k0)) w w' := by
  have hl : s.data.toList.length = s.size := by rw [Array.length_toList]; rfl
  have HL := Lib.hid hl
  clear hl
  go_enter Tryd.func17, Tryd.ntmps17
  have HB := Lib.hid hb
  clear hb
  go_wp2_with fail
  go_loopg [] s.size (fun n wr => ∃ k : Nat, k ≤ s.size ∧ s.size - k ≤ n ∧ Hid (Upd b (lexObj s k) w wr) ∧ Hid (Tk.skipAt s.data.toList k = Tk.skipAt s.data.toList k0))
  case atStart => exact ⟨k0, hk0, by omega, Upd.refl HB.out, rfl⟩
  case round =>
    obtain ⟨k, hk, hn, HU, HI⟩ := hrel
    obtain ⟨hc0, hc1, hf1⟩ := lexObj_cells HU.out.now
    have F := far_any s k hk hs b wr hc0 30 Tk.blank (fun _ _ => by kernel_rfl) blank_any
    have hk1 := Tk.far_le Tk.blank s.data.toList k (by rw [HL.out]; exact hk)
    have hk2 := Tk.far_ge Tk.blank s.data.toList k
    rw [HL.out] at hk1
    have HS : _ → _ := fun h => Tk.skipAt_stop s.data.toList k (by rw [HL.out]; exact hk) h
    have HO := Tk.skipAt_on s.data.toList k
    generalize hfar : Tk.far Tk.blank s.data.toList k = k1 at F hk1 hk2 HS HO
    clear hfar
    go_wp2_with (go_at_call 29; refine F.mono ?_; clear F; rintro e w' ⟨rfl, rfl⟩)

    have HU1 := Lib.hid (HU.out.set 1 (.int .i64 k1))
    clear HU hc0 hc1 hf1
    obtain ⟨hc0, hc1, hf1⟩ := lexObj_cells (s := s) (k := k1) HU1.out.now
    generalize wr.setCell ⟨b, 1, none⟩ (.int .i64 k1) = w1 at *
    go_quiet ((go_at_call 31; exact Calls.quiet_of_same (Tryd.strings_HasPrefix _ _ _)))
    have hpfx : Lib.hasPrefix (List.take (s.size - k1) (List.drop k1 s.data.toList)) [45, 45] = [45, 45].isPrefixOf (List.drop k1 s.data.toList) := by
      rw [List.take_of_length_le (by rw [List.length_drop, HL.out]; exact Nat.le_refl _)]
      rfl
    rw [hpfx]
    clear hpfx
    have HX := Tk.far_dashes s.data.toList k1
    generalize [45, 45].isPrefixOf (List.drop k1 s.data.toList) = pf at HS HO HX ⊢
    replace HX := Lib.hid HX
    replace HS := Lib.hid HS
    replace HO := Lib.hid HO
    have hq : Upd b (lexObj s k1) w (w1.drewN nq) := HU1.out.drewN nq
    have HU2 := Lib.hid hq
    clear hq HU1 hc0 hc1 hf1
    obtain ⟨hc0, hc1, hf1⟩ := lexObj_cells (s := s) (k := k1) HU2.out.now
    generalize w1.drewN nq = w2 at *
    cases pf
    · go_wp2_with fail
      refine bodyPost_ret (results_none rfl _ _ _) rfl ⟨rfl, ?_⟩
      rw [← HI.out, HS.out trivial]
      exact HU2.out
    · have F := far_any s k1 hk1 hs b w2 hc0 32 Tk.notnl (fun _ _ => by kernel_rfl) notnl_any
      go_wp2_with (go_at_call 29; refine F.mono ?_; clear F; rintro e w' ⟨rfl, rfl⟩)
      have h3 := HX.out trivial
      have h4 := Tk.far_le Tk.notnl s.data.toList k1 (by rw [HL.out]; exact hk1)
      rw [HL.out] at h4
      go_roundg (gk - 1)
      case measure => omega
      case rel => exact ⟨Tk.far Tk.notnl s.data.toList k1, h4, by omega, HU2.out.set 1 _, (HO.out trivial).trans HI.out⟩
end Go.Proofs.YteoleblodhgheaaDoor
