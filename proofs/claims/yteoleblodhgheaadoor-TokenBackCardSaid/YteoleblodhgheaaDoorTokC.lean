import Derived.Test.YteoleblodhgheaaDoorTokB
import Derived.WideLaws
namespace Go.Proofs.YteoleblodhgheaaDoor
open Go.RowKit
set_option maxHeartbeats 400000
/-- What 'number' hands back: bad: ErrToken. -/
def NumPost (s : ByteArray) (k k1 : Nat) (v : Int) (b : Nat) (w : World) : Bool → Ending → World → Prop
  | true, e, w' => e = .returned (.tuple #[zeroTok, .int .i64 30]) ∧ Upd b (lexObj s k) w w'
  | false, e, w' => e = .returned (.tuple #[tokV 2 [] v k, .int .i64 0]) ∧ Upd b (lexObj s k1) w w'
theorem Upd.set4 {b : Nat} {o : Obj} {w w' : World} (h : Upd b o w w') (hb : b < w.heap.size) (v0 v1 v2 v3 : Value) :
    Upd b o w ((((w'.setCell ⟨w.heap.size, 0, none⟩ v0).setCell ⟨w.heap.size, 1, none⟩ v1).setCell ⟨w.heap.size, 2, none⟩ v2).setCell ⟨w.heap.size, 3, none⟩ v3) :=
  (((h.setNew (Nat.le_refl _) (by omega) 0 _).setNew (Nat.le_refl _) (by omega) 1 _).setNew (Nat.le_refl _) (by omega) 2 _).setNew (Nat.le_refl _) (by omega) 3 _
theorem toList_head (d : ByteArray) (h : 0 < d.size) : d.data.toList.head? = some d[0] := by
  rw [List.head?_eq_getElem?, List.getElem?_eq_getElem (by rw [Array.length_toList]; exact h)]
  rfl
theorem parseInt_ok (d : ByteArray) (hd : d.size ≤ 140737488355328) (v : Int) (h : Lib.parseIntB 64 d.data.toList = .ok v) (w : World) :
    Calls Tryd.prog 45 #[.string d, .int .i64 10, .int .i64 64] w fun e w' => e = .returned (.tuple #[.int .i64 v, .nilIface]) ∧ Below w.heap.size w w' := by
  refine (Tryd.strconv_ParseInt_10_at64_ok d (by omega) v h w).mono ?_
  rintro e w' ⟨rfl, rfl | ⟨t, rfl⟩⟩
  · exact ⟨rfl, Below.refl _ _⟩
  · exact ⟨rfl, Lib.bytesWorld_below _ _ _⟩
def badB (d : ByteArray) (k1 k2 : Nat) : Bool := decide (d.data.toList.head? = some 48 ∧ d.toList ≠ [48]) || decide (k1 < k2)
theorem bad_t1 {d : ByteArray} {k1 k2 : Nat} (h : 0 < d.size) (h1 : (d[0].toNat : Int) = 48) (h2 : ¬ d.toList = [48]) : badB d k1 k2 = true := by
  have : d[0] = 48 := UInt8.toNat_inj.1 (by have : (48 : UInt8).toNat = 48 := rfl; omega)
  simp [badB, toList_head d h, this, h2]
theorem bad_t2 {d : ByteArray} {k1 k2 : Nat} (h : k1 < k2) : badB d k1 k2 = true := by simp [badB, h]
theorem bad_f1 {d : ByteArray} {k1 k2 : Nat} (h2 : d.toList = [48]) (h : ¬ k1 < k2) : badB d k1 k2 = false := by simp [badB, h, h2]
theorem bad_f2 {d : ByteArray} {k1 k2 : Nat} (h0 : 0 < d.size) (h1 : ¬ (d[0].toNat : Int) = 48) (h : ¬ k1 < k2) : badB d k1 k2 = false := by
  have : ¬ d[0] = 48 := fun e => h1 (by rw [e]; rfl)
  simp [badB, toList_head d h0, this, h]
/-- The digits may be read: what is left to test. -/
theorem number_in (s : ByteArray) (k : Nat) (hk : k ≤ s.size) (hs : s.size ≤ 140737488355328) (b : Nat) (w : World) (hb : w.heap[b]? = some (lexObj s k)) (k1 : Nat) (hk1 : k1 = Tk.far Tk.digit s.data.toList k) (v : Int)
    (hv : Lib.parseIntB 64 (s.extract k k1).data.toList = .ok v) (hkk : k < k1) (k2 : Nat) (hk2 : k2 = Tk.far Tk.letter s.data.toList k1) (bad : Bool) 
    (hbad : bad = badB (s.extract k k1) k1 k2) :
    Calls Tryd.prog 34 #[.pointer (some ⟨b, 0, none⟩)] w (NumPost s k k1 v b w bad) := by
  obtain ⟨hc0, hc1, hf1⟩ := lexObj_cells hb
  have hlt := (Array.getElem?_eq_some_iff.1 hb).1
  obtain ⟨hge, hle, F⟩ := far_k s k hk (by omega) 23 Tk.digit (fun _ _ => by kernel_rfl) digit_any k1 hk1
  obtain ⟨hge2, hle2, F2⟩ := far_k s k1 hle (by omega) 24 Tk.letter (fun _ _ => by kernel_rfl) letter_any k2 hk2
  clear hk1 hk2
  have FH := Lib.hid F
  have FH2 := Lib.hid F2
  clear F F2
  have HB := Lib.hid hb
  clear hb
  have hd : (s.extract k k1).size = k1 - k := by simp; omega
  generalize hdd : s.extract k k1 = d at hv hbad hd
  have hds : 0 < d.size := by omega
  have HD := Lib.hid hdd
  have HV := Lib.hid hv
  have HBAD := Lib.hid hbad
  clear hdd hv hbad
  have hkk' : (k : Int) < (k1 : Int) := by omega
  have hds' : (0 : Int) < (d.size : Int) := by omega
  go_enter Tryd.func34, Tryd.ntmps34
  go_wp2_with (go_at_call 29; refine (FH.out _ _ k ((Upd.refl HB.out).alloc _).now).mono ?_; rintro e w' ⟨rfl, rfl⟩)
  go_quiet (fail)
  have hW : Upd b (lexObj s k) w ((w.alloc (.cells #[.int .u8 0, .string ⟨#[]⟩, .int .i64 0, .int .i64 0] 31)).drewN nq) := ((Upd.refl HB.out).alloc _).drewN nq
  have hR : ((w.alloc (.cells #[.int .u8 0, .string ⟨#[]⟩, .int .i64 0, .int .i64 0] 31)).drewN nq).heap[w.heap.size]? = some (.cells #[.int .u8 0, .string ⟨#[]⟩, .int .i64 0, .int .i64 0] 31 (0, 0)) := alloc_now w _
  have HW := Lib.hid hW
  have HR := Lib.hid hR
  clear hW hR hc0 hc1 hf1
  generalize (w.alloc (.cells #[.int .u8 0, .string ⟨#[]⟩, .int .i64 0, .int .i64 0] 31)).drewN nq = W at *
  rw [HD.out]
  clear HD
  go_wp2_with (first
    | (go_at_call 45; refine (parseInt_ok _ (by omega) v HV.out _).mono ?_; rintro e w1 ⟨rfl, hw1⟩; have HW1 := Lib.hid (HW.out.below (Array.getElem?_eq_some_iff.1 HW.out.now).1 hw1); have HR1 := Lib.hid (below_keep hw1 HR.out); obtain ⟨c0, c1, c2, c3, f0, f1, f2, f3⟩ := cells4 HR1.out; clear hw1)
    | (go_at_call 29; refine (FH2.out _ _ k HW1.out.now).mono ?_; rintro e w' ⟨rfl, rfl⟩)
    | (go_at_call 43; refine (found_any s k k1 _ _ _ _ b _ HW1.out.now).mono ?_; rintro e w2 ⟨rfl, hu⟩; have HW2 := Lib.hid (HW1.out.trans hu); have HR2 := Lib.hid (hu.keep HR1.out (by omega)); obtain ⟨d0, d1, d2, d3, g0, g1, g2, g3⟩ := cells4 HR2.out; clear hu))
  all_goals first
    | (have hbb : bad = true := by
         rw [HBAD.out]
         first | exact bad_t1 hds ‹_› ‹_› | exact bad_t2 ‹_›
       rw [hbb]
       refine bodyPost_ret (v := .tuple #[zeroTok, .int .i64 30]) (by simp [zeroTok, results, Tryd.results34, go_sem, c0, c1, c2, c3]) rfl ⟨rfl, ?_⟩
       exact HW1.out.set4 (by omega) _ _ _ _)
    | (have hbb : bad = false := by
         rw [HBAD.out]
         first | exact bad_f1 ‹_› ‹_› | exact bad_f2 hds ‹_› ‹_›
       rw [hbb]
       refine bodyPost_ret (v := .tuple #[tokV 2 [] v k, .int .i64 0]) (by simp [tokV, results, Tryd.results34, go_sem, d0, d1, d2, d3]) rfl ⟨rfl, ?_⟩
       exact HW2.out.set4 (by omega) _ _ _ _)

/-- The digits go beyond 64 bits. -/
theorem number_over (s : ByteArray) (k : Nat) (hk : k ≤ s.size) (hs : s.size ≤ 140737488355328) (b : Nat) (w : World) (hb : w.heap[b]? = some (lexObj s k)) (k1 : Nat) (hk1 : k1 = Tk.far Tk.digit s.data.toList k)
    (hv : Lib.parseIntB 64 (s.extract k k1).data.toList = .range) (hkk : k < k1) (tp : TypeId) (pv : Value) (hvar : w.cell? ⟨4, 0, none⟩ = some (.iface tp pv)) (hg : 4 ≠ b) :
    Calls Tryd.prog 34 #[.pointer (some ⟨b, 0, none⟩)] w fun e w' => e = .returned (.tuple #[zeroTok, .int .i64 30]) ∧ Upd b (lexObj s k) w w' := by
  obtain ⟨hc0, hc1, hf1⟩ := lexObj_cells hb
  have hlt := (Array.getElem?_eq_some_iff.1 hb).1
  obtain ⟨hge, hle, F⟩ := far_k s k hk (by omega) 23 Tk.digit (fun _ _ => by kernel_rfl) digit_any k1 hk1
  clear hk1
  have FH := Lib.hid F
  clear F
  have HB := Lib.hid hb
  clear hb
  have hd : (s.extract k k1).size = k1 - k := by simp; omega
  generalize hdd : s.extract k k1 = d at hv hd
  have hds : 0 < d.size := by omega
  have HD := Lib.hid hdd
  have HV := Lib.hid hv
  have HG := Lib.hid hvar
  clear hdd hv hvar
  have hkk' : (k : Int) < (k1 : Int) := by omega
  have hds' : (0 : Int) < (d.size : Int) := by omega
  go_enter Tryd.func34, Tryd.ntmps34
  go_wp2_with (go_at_call 29; refine (FH.out _ _ k ((Upd.refl HB.out).alloc _).now).mono ?_; rintro e w' ⟨rfl, rfl⟩)
  go_quiet (fail)
  have hW : Upd b (lexObj s k) w ((w.alloc (.cells #[.int .u8 0, .string ⟨#[]⟩, .int .i64 0, .int .i64 0] 31)).drewN nq) := ((Upd.refl HB.out).alloc _).drewN nq
  have hR : ((w.alloc (.cells #[.int .u8 0, .string ⟨#[]⟩, .int .i64 0, .int .i64 0] 31)).drewN nq).heap[w.heap.size]? = some (.cells #[.int .u8 0, .string ⟨#[]⟩, .int .i64 0, .int .i64 0] 31 (0, 0)) := alloc_now w _
  have HW := Lib.hid hW
  have HR := Lib.hid hR
  clear hW hR hc0 hc1 hf1
  generalize (w.alloc (.cells #[.int .u8 0, .string ⟨#[]⟩, .int .i64 0, .int .i64 0] 31)).drewN nq = W at *
  rw [HD.out]
  clear HD
  go_wp2_with (go_at_call 45; refine (Tryd.strconv_ParseInt_10_at64_range _ (by omega) HV.out (.iface tp pv) _ ((World.cell?_of_block (HW.out.block _ (World.block_lt_of_cell? w _ HG.out) hg)).trans HG.out) (Or.inr ⟨tp, pv, rfl⟩)).mono ?_; rintro e w1 ⟨N, rfl, hN, hNN, hw1⟩; have HW1 := Lib.hid (HW.out.below (Array.getElem?_eq_some_iff.1 HW.out.now).1 hw1); have HR1 := Lib.hid (below_keep hw1 HR.out); obtain ⟨c0, c1, c2, c3, f0, f1, f2, f3⟩ := cells4 HR1.out; clear hw1 hNN)
  refine bodyPost_ret (v := .tuple #[zeroTok, .int .i64 30]) (by simp [zeroTok, results, Tryd.results34, go_sem, c0, c1, c2, c3]) rfl ⟨rfl, ?_⟩
  exact HW1.out.set4 (by omega) _ _ _ _
end Go.Proofs.YteoleblodhgheaaDoor
