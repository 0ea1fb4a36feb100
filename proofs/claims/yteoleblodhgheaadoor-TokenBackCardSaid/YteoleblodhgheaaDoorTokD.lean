import Derived.Test.YteoleblodhgheaaDoorTokC
import Derived.Test.YteoleblodhgheaaDoorBld
namespace Go.Proofs.YteoleblodhgheaaDoor
open Go.RowKit
set_option maxHeartbeats 400000
/-- What 'text' hands back. -/
def TextPost (s : ByteArray) (k : Nat) (b : Nat) (w : World) : Option (List UInt8 × List UInt8) → Ending → World → Prop
  | none, e, w' => e = .returned (.tuple #[zeroTok, .int .i64 30]) ∧ Upd b (lexObj s k) w w'
  | some (t, r), e, w' => e = .returned (.tuple #[tokV 3 t 0 k, .int .i64 0]) ∧ Upd b (lexObj s (s.size - r.length)) w w'
theorem drop_at (s : ByteArray) (k : Nat) (h : k < s.size) : s.data.toList.drop k = s[k] :: s.data.toList.drop (k + 1) := by
  rw [List.drop_eq_getElem_cons (by rw [Array.length_toList]; exact h)]
  rfl
theorem drop_end (s : ByteArray) : s.data.toList.drop s.size = [] := List.drop_eq_nil_of_le (by rw [Array.length_toList]; exact Nat.le_refl _)
theorem byte_eq {a : UInt8} {n : Nat} (hn : n < 256) (h : (a.toNat : Int) = (n : Int)) : a = UInt8.ofNat n := by
  apply UInt8.toNat_inj.1
  simp [Nat.mod_eq_of_lt hn]
  omega
theorem byte_ne {a : UInt8} {n : Nat} (hn : n < 256) (h : ¬ (a.toNat : Int) = (n : Int)) : a ≠ UInt8.ofNat n := by
  rintro rfl
  apply h
  simp [Nat.mod_eq_of_lt hn]
theorem found_succ (s : ByteArray) (k q : Nat) (kd : Int) (tx : ByteArray) (i a : Int) (b : Nat) (w : World) (hb : w.heap[b]? = some (lexObj s k)) :
    Calls Tryd.prog 43 #[.pointer (some ⟨b, 0, none⟩), .agg #[.int .u8 kd, .string tx, .int .i64 i, .int .i64 a], .int .i64 ((q : Int) + 1)] w fun e w' =>
      e = .returned (.tuple #[.agg #[.int .u8 kd, .string tx, .int .i64 i, .int .i64 k], .int .i64 0]) ∧ Upd b (lexObj s (q + 1)) w w' := by
  have h := found_any s k (q + 1) kd tx i a b w hb
  rw [show (((q + 1 : Nat)) : Int) = (q : Int) + 1 from by omega] at h
  exact h
theorem Upd.belowB {b B : Nat} {o : Obj} {w w1 w2 : World} (h : Upd b o w w1) (hb : b < B) (hB : w.heap.size ≤ B) (k : Below B w1 w2) : Upd b o w w2 :=
  ⟨k.os.trans h.os, k.tape.trans h.tape, k.output.trans h.output, Nat.le_trans h.size k.size, (k.block b hb).trans h.now, fun i hi hne => (k.block i (by omega)).trans (h.block i hi hne)⟩
theorem builder_is {T e B b : Nat} {p : Value} {bs : List Value} {w : World} (h : Lib.BuilderAt T e B b p bs w) (hp : p = .pointer none ∨ p = .pointer (some ⟨b, 0, none⟩)) : Lib.IsBuilder T e B b bs w := by
  rcases hp with rfl | rfl
  · exact Or.inl h
  · exact Or.inr h
theorem byteCells_snoc (l : List UInt8) (c : UInt8) : Lib.byteCells (l ++ [c]) = Lib.byteCells l ++ [.int .u8 (c.toNat : Int)] := by simp [Lib.byteCells]
theorem text_any (s : ByteArray) (k : Nat) (hk : k < s.size) (hs : s.size ≤ 140737488355328) (b : Nat) (w : World) (hb : w.heap[b]? = some (lexObj s k)) :
    Calls Tryd.prog 36 #[.pointer (some ⟨b, 0, none⟩)] w (TextPost s k b w (Tk.textGo (s.data.toList.drop (k + 1)))) := by
  obtain ⟨hc0, hc1, hf1⟩ := lexObj_cells hb
  have hlt := (Array.getElem?_eq_some_iff.1 hb).1
  have HB := Lib.hid hb
  clear hb
  rw [← Tk.textOn_empty]
  generalize hR : Tk.textOn [] (s.data.toList.drop (k + 1)) = R
  have HR := Lib.hid hR
  clear hR
  go_enter Tryd.func36, Tryd.ntmps36
  go_wp2_with fail
  have h1 : Upd b (lexObj s k) w ((w.alloc (.cells #[.int .u8 0, .string ⟨#[]⟩, .int .i64 0, .int .i64 0] 31)).alloc (.cells #[.pointer none, .slice none 0 0] 66)) := ((Upd.refl HB.out).alloc _).alloc _
  have h2 : ((w.alloc (.cells #[.int .u8 0, .string ⟨#[]⟩, .int .i64 0, .int .i64 0] 31)).alloc (.cells #[.pointer none, .slice none 0 0] 66)).heap[w.heap.size]? = some (.cells #[.int .u8 0, .string ⟨#[]⟩, .int .i64 0, .int .i64 0] 31 (0, 0)) := (Below.heap_alloc _ _ _ (by simp)).trans (alloc_now w _)
  have h3 : Lib.IsBuilder 66 5 (w.heap.size + 1) (w.heap.size + 1) [] ((w.alloc (.cells #[.int .u8 0, .string ⟨#[]⟩, .int .i64 0, .int .i64 0] 31)).alloc (.cells #[.pointer none, .slice none 0 0] 66)) := by
    have := Lib.fresh_isBuilder 66 5 (w.alloc (.cells #[.int .u8 0, .string ⟨#[]⟩, .int .i64 0, .int .i64 0] 31))
    simpa using this
  have H1 := Lib.hid h1
  have H2 := Lib.hid h2
  have H3 := Lib.hid h3
  clear h1 h2 h3 hc0 hc1 hf1
  generalize (w.alloc (.cells #[.int .u8 0, .string ⟨#[]⟩, .int .i64 0, .int .i64 0] 31)).alloc (.cells #[.pointer none, .slice none 0 0] 66) = W at *
  go_loopg [5] (s.size - k) (fun n i wr => ∃ (q : Nat) (acc : List UInt8), q ≤ s.size ∧ s.size - q ≤ n ∧ acc.length ≤ q ∧ i = .int .i64 q ∧ Hid (Tk.textOn acc (s.data.toList.drop q) = R) ∧ Hid (Upd b (lexObj s k) w wr) ∧
      Hid (wr.heap[w.heap.size]? = some (.cells #[.int .u8 0, .string ⟨#[]⟩, .int .i64 0, .int .i64 0] 31 (0, 0))) ∧ Hid (Lib.IsBuilder 66 5 (w.heap.size + 1) (w.heap.size + 1) (Lib.byteCells acc) wr) ∧ w.heap.size + 1 ≤ wr.heap.size)
  case atStart => 
    have hz := (Array.getElem?_eq_some_iff.1 H2.out).1
    exact ⟨k + 1, [], by omega, by omega, by simp, by simp, HR.out, H1.out, H2.out, H3.out, by omega⟩
  case round =>
    clear H1 H2 H3 HR
    obtain ⟨q, acc, hq, hn, hacc, rfl, HR, H1, H2, H3, hz⟩ := hrel
    obtain ⟨hc0, hc1, hf1⟩ := lexObj_cells H1.out.now
    have hcl : (Lib.byteCells acc).length = acc.length := by simp [Lib.byteCells]
    have HCL := Lib.hid hcl
    clear hcl
    by_cases hlt2 : q < s.size
    · by_cases h39 : (s[q].toNat : Int) = 39
      · have e1 : s[q] = 39 := byte_eq (n := 39) (by omega) h39
        have hd : s.data.toList.drop q = 39 :: s.data.toList.drop (q + 1) := by rw [drop_at s q hlt2, e1]
        rw [hd] at HR
        clear e1 hd
        by_cases hlt3 : q + 1 < s.size
        · have hd := drop_at s (q + 1) hlt3
          rw [hd] at HR
          clear hd
          by_cases h40 : (s[q + 1].toNat : Int) = 39
          · have e1 : s[q + 1] = 39 := byte_eq (n := 39) (by omega) h40
            rw [e1, Tk.textOn_quote] at HR
            clear e1
            go_wp2_with (go_at_call 47; refine (Tryd.bld_WriteByte (w.heap.size + 1) (w.heap.size + 1) _ _ _ H3.out (by rw [HCL.out]; omega) (by omega)).mono ?_; rintro e w1 ⟨rfl, hB, hb1⟩)
            go_roundg (gk - 1)
            case measure => omega
            case rel => exact ⟨q + 2, acc ++ [39], by omega, by omega, by simp; omega, by go_num, HR.out, H1.out.belowB (by omega) (by omega) hb1, (hb1.block _ (by omega)).trans H2.out, builder_is (by rw [byteCells_snoc]; exact hB) (Or.inr rfl), by have := hb1.size; omega⟩
          · have e1 : s[q + 1] ≠ 39 := byte_ne (n := 39) (by omega) h40
            have hR := HR.out
            rw [Tk.textOn_stop _ _ _ e1, ← drop_at s (q + 1) hlt3] at hR
            subst hR
            clear e1 HR
            have hne : ((s[q + 1].toNat : Int) != 39) = true := by rw [bne_iff_ne]; exact h40
            go_wp2_with (first
              | (go_at_call 46; refine (Tryd.bld_String (w.heap.size + 1) (w.heap.size + 1) acc _ H3.out (by omega)).mono ?_; rintro e w1 ⟨rfl, hb1⟩)
              | (go_at_call 43; refine (found_succ s k q _ _ _ _ b _ (H1.out.belowB (by omega) (by omega) hb1).now).mono ?_; rintro e w2 ⟨rfl, hu⟩; obtain ⟨d0, d1, d2, d3, g0, g1, g2, g3⟩ := cells4 (hu.keep ((hb1.block _ (by omega)).trans H2.out) (by omega))))
            refine bodyPost_ret (v := .tuple #[tokV 3 acc 0 k, .int .i64 0]) (by simp [tokV, results, Tryd.results36, go_sem, d0, d1, d2, d3]) rfl ⟨rfl, ?_⟩
            rw [show s.size - (s.data.toList.drop (q + 1)).length = q + 1 by rw [List.length_drop, Array.length_toList]; show s.size - (s.size - (q + 1)) = _; omega]
            exact ((H1.out.belowB (by omega) (by omega) hb1).trans hu).set4 (by omega) _ _ _ _
        · have hR := HR.out
          rw [List.drop_eq_nil_of_le (by rw [Array.length_toList]; show s.size ≤ _; omega), Tk.textOn_end] at hR
          subst hR
          clear HR
          go_wp2_with (first
              | (go_at_call 46; refine (Tryd.bld_String (w.heap.size + 1) (w.heap.size + 1) acc _ H3.out (by omega)).mono ?_; rintro e w1 ⟨rfl, hb1⟩)
              | (go_at_call 43; refine (found_any s k s.size _ _ _ _ b _ (H1.out.belowB (by omega) (by omega) hb1).now).mono ?_; rintro e w2 ⟨rfl, hu⟩; obtain ⟨d0, d1, d2, d3, g0, g1, g2, g3⟩ := cells4 (hu.keep ((hb1.block _ (by omega)).trans H2.out) (by omega))))
          refine bodyPost_ret (v := .tuple #[tokV 3 acc 0 k, .int .i64 0]) (by simp [tokV, results, Tryd.results36, go_sem, d0, d1, d2, d3]) rfl ⟨rfl, ?_⟩
          rw [show s.size - ([] : List UInt8).length = s.size from rfl]
          exact ((H1.out.belowB (by omega) (by omega) hb1).trans hu).set4 (by omega) _ _ _ _
      · have e1 : s[q] ≠ 39 := byte_ne (n := 39) (by omega) h39
        go_wp2_with (go_at_call 47; refine (Tryd.bld_WriteByte (w.heap.size + 1) (w.heap.size + 1) _ _ _ H3.out (by rw [HCL.out]; omega) (by omega)).mono ?_; rintro e w1 ⟨rfl, hB, hb1⟩)
        go_roundg (gk - 1)
        case measure => omega
        case rel => exact ⟨q + 1, acc ++ [s[q]], by omega, by omega, by simp; omega, by go_num, by rw [← Tk.textOn_byte _ _ _ e1, ← drop_at s q hlt2]; exact HR.out, H1.out.belowB (by omega) (by omega) hb1, (hb1.block _ (by omega)).trans H2.out, builder_is (by rw [byteCells_snoc]; exact hB) (Or.inr rfl), by have := hb1.size; omega⟩
    · have hR := HR.out
      rw [List.drop_eq_nil_of_le (by rw [Array.length_toList]; show s.size ≤ _; omega), Tk.textOn_nil] at hR
      subst hR
      clear HR
      obtain ⟨d0, d1, d2, d3, g0, g1, g2, g3⟩ := cells4 H2.out
      go_wp2_with fail
      refine bodyPost_ret (v := .tuple #[zeroTok, .int .i64 30]) (by simp [zeroTok, results, Tryd.results36, go_sem, d0, d1, d2, d3]) rfl ⟨rfl, ?_⟩
      exact H1.out.set4 (by omega) _ _ _ _
end Go.Proofs.YteoleblodhgheaaDoor
