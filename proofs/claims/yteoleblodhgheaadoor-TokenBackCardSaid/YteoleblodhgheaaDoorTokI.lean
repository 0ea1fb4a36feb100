import Derived.Test.YteoleblodhgheaaDoorTokH
import Derived.Test.YteoleblodhgheaaDoorMapRun
namespace Go.Proofs.YteoleblodhgheaaDoor
open Go.RowKit
set_option maxHeartbeats 400000
def strEntry (x : List UInt8 × Nat) : MapEntry := { key := .string ⟨x.1.toArray⟩, val := .bool true, born := x.2 }
/-- A map of texts, each true, stored one behind the other. -/
def strEntries (ws : List (List UInt8)) : List MapEntry := ws.zipIdx.map strEntry
theorem strEntries_snoc (ws : List (List UInt8)) (x : List UInt8) : strEntries (ws ++ [x]) = strEntries ws ++ [strEntry (x, ws.length)] := by
  simp [strEntries, List.zipIdx_append]
theorem str_eq (s : ByteArray) (l : List UInt8) : (s == ({ data := l.toArray } : ByteArray)) = decide (s.data.toList = l) := by
  rw [Bool.eq_iff_iff, MapKept.bytes_beq, decide_eq_true_eq]
  constructor
  · rintro rfl; simp
  · intro h; rw [← h]
theorem find_str (s : ByteArray) (ws : List (List UInt8)) : ∀ (k i : Nat), ∃ a, Instr.findNow .string (.string s) ((ws.zipIdx k).map strEntry) i = some a ∧ a.isSome = decide (s.data.toList ∈ ws) ∧ ∀ x, a = some x → x.2 = .bool true := by
  induction ws with
  | nil => intro k i; exact ⟨none, rfl, by simp, by simp⟩
  | cons x xs ih =>
    intro k i
    simp only [List.zipIdx_cons, List.map_cons]
    unfold Instr.findNow
    simp only [strEntry, Instr.sameNow, str_eq]
    by_cases h : s.data.toList = x
    · simp [h]
    · obtain ⟨a, h1, h2, h3⟩ := ih (k + 1) (i + 1)
      simp only [h, decide_false]
      exact ⟨a, h1, by rw [h2]; simp [h], h3⟩
def wordsText : List UInt8 := ([97, 110, 100, 32, 97, 115, 32, 98, 121, 32, 99, 97, 108, 108, 32, 99, 114, 101, 97, 116, 101, 32, 100, 101, 108, 101, 116, 101, 32, 100, 101, 115, 99, 32, 100].append [114, 111, 112, 32, 102, 97, 108, 115, 101, 32, 102, 114, 111, 109, 32, 103, 114, 111, 117, 112, 32, 104, 97, 118, 105, 110, 103, 32, 105, 110, 115, 101, 114, 116, 32, 105]).append ([110, 116, 111, 32, 105, 115, 32, 108, 105, 109, 105, 116, 32, 110, 111, 116, 32, 110, 117, 108, 108, 32, 111, 110, 108, 121, 32, 111, 114, 32, 111, 114, 100, 101, 114].append [32, 115, 101, 108, 101, 99, 116, 32, 115, 101, 116, 32, 116, 114, 117, 101, 32, 117, 112, 100, 97, 116, 101, 32, 118, 97, 108, 117, 101, 115, 32, 119, 104, 101, 114, 101])
theorem wordsText_fields : Lib.fields wordsText = Tk.words := by decide +kernel
theorem wordsText_length : wordsText.length = 142 := by decide +kernel
theorem wordsText_ascii : wordsText.all (fun b => b.toNat < 128) = true := by decide +kernel
theorem fields_words (w : World) (h : Env w) : Calls Tryd.prog 40 #[.string ⟨wordsText.toArray⟩] w fun e w' =>
    e = .returned (.slice (some ⟨w.heap.size, 0, none⟩) 27 27) ∧ w' = w.alloc (.cells (Tk.words.map fun l => Value.string ⟨l.toArray⟩).toArray 9) := by
  have hF := wordsText_fields
  have hL := wordsText_length
  have hA := wordsText_ascii
  generalize wordsText = l at hF hL hA ⊢
  have := Tryd.strings_Fields ⟨l.toArray⟩ w (by show l.toArray.size < _; simp [hL]) (by
    intro j b hb
    simpa using List.all_eq_true.1 hA b (List.mem_of_getElem? (by simpa using hb))) h.space
  simp only [hF] at this
  exact this
theorem word_cell {w : World} {A : Nat} (h : w.heap[A]? = some (.cells (Tk.words.map fun l => Value.string ⟨l.toArray⟩).toArray 9 (0, 0))) (j : Nat) (hj : j < Tk.words.length) :
    w.cell? ⟨A, j, none⟩ = some (.string ⟨(Tk.words[j]).toArray⟩) := by
  rw [blk_cell h]
  simp [hj]
theorem below_setObj {B : Nat} {a w : World} (h : Below B a w) {r : Nat} (hr : B ≤ r) (o : Obj) : Below B a { w with heap := w.heap.setIfInBounds r o } :=
  ⟨h.os, h.tape, h.output, by simpa using h.size, fun k hk => by rw [← h.block k hk]; exact Array.getElem?_setIfInBounds_ne (by omega)⟩
/-- What 'reserved' hands back. -/
def ResvPost (w : World) (e : Ending) (w' : World) : Prop :=
  ∃ r es clock, e = .returned (.map (some r)) ∧ w'.heap[r]? = some (.map es clock) ∧ es.toList = strEntries Tk.words ∧ Below w.heap.size w w'
set_option maxRecDepth 100000 in
theorem reserved_map (w : World) (hE : Env w) : Calls Tryd.prog 21 #[] w (ResvPost w) := by
  have HE := Lib.hid hE
  clear hE
  have hmm := @run_makeMap Tryd.prog
  go_enter Tryd.func21, Tryd.ntmps21
  go_wp2_with fail
  have F := fields_words (w.alloc (.map #[] 0)) (HE.out.alloc _)
  have HF := Lib.hid F
  clear F hmm
  go_wp2_with (go_at_call 40; refine HF.out.mono ?_; rintro e w' ⟨rfl, rfl⟩)
  have H0 := Lib.hid (show ((w.alloc (.map #[] 0)).alloc (.cells (Tk.words.map fun l => Value.string ⟨l.toArray⟩).toArray 9)).heap[w.heap.size]? = some (.map #[] 0) from (Below.heap_alloc _ _ _ (by simp)).trans (alloc_now w _))
  have H1 := Lib.hid (alloc_now2 w (.map #[] 0) (.cells (Tk.words.map fun l => Value.string ⟨l.toArray⟩).toArray 9))
  have H2 := Lib.hid (show Below w.heap.size w ((w.alloc (.map #[] 0)).alloc (.cells (Tk.words.map fun l => Value.string ⟨l.toArray⟩).toArray 9)) from ((Below.refl _ _).alloc (Nat.le_refl _) _).alloc (by simp) _)
  clear HF
  generalize (w.alloc (.map #[] 0)).alloc (.cells (Tk.words.map fun l => Value.string ⟨l.toArray⟩).toArray 9) = W at *
  go_loopg [7] 28 (fun n i wr => ∃ (j : Nat) (es : Array MapEntry), j ≤ 27 ∧ 27 - j < n ∧ i = .int .i64 j ∧ Hid (wr.heap[w.heap.size]? = some (.map es j)) ∧ Hid (es.toList = strEntries (Tk.words.take j)) ∧
      Hid (wr.heap[w.heap.size + 1]? = some (.cells (Tk.words.map fun l => Value.string ⟨l.toArray⟩).toArray 9 (0, 0))) ∧ Hid (Below w.heap.size w wr))
  case atStart => exact ⟨0, #[], by omega, by omega, rfl, H0.out, rfl, H1.out, H2.out⟩
  case round =>
    clear H0 H1 H2
    obtain ⟨j, es, hj, hn, rfl, HM, HES, HT, HB⟩ := hrel
    by_cases hlt : j < 27
    · have hjl : j < Tk.words.length := hlt
      obtain ⟨sg, hsg⟩ : ∃ sg, sg = Tk.words[j] := ⟨_, rfl⟩
      have hc : wr.cell? ⟨w.heap.size + 1, j, none⟩ = some (.string ⟨sg.toArray⟩) := by rw [hsg]; exact word_cell HT.out j hjl
      have hnot : sg ∉ Tk.words.take j := by rw [hsg]; exact Tk.words_new j hjl
      have hnew : Instr.findNow .string (.string ⟨sg.toArray⟩) es.toList 0 = some none := by
        obtain ⟨a, h1, h2, h3⟩ := find_str ⟨sg.toArray⟩ (Tk.words.take j) 0 0
        rw [HES.out]
        have h4 : a.isSome = false := by rw [h2]; simpa using hnot
        have h5 : a = none := by simpa using h4
        rw [h5] at h1
        exact h1
      have hup1 := run_mapUpdate_new (P := Tryd.prog) (w := wr) Tryd.underlying44 Tryd.underlying9 (Or.inl rfl) HM.out (.string ⟨sg.toArray⟩) (.bool true) hnew
      have hes2 : es.toList ++ [strEntry (sg, j)] = strEntries (Tk.words.take (j + 1)) := by
        rw [List.take_succ_eq_append_getElem hjl, ← hsg, strEntries_snoc, HES.out, List.length_take, Nat.min_eq_left (Nat.le_of_lt hjl)]
      have HES2 := Lib.hid hes2
      clear hnew hes2 hjl hnot hsg
      go_wp2_with fail
      clear hup1
      go_roundg (gk - 1)
      case measure => omega
      case rel =>
        refine ⟨j + 1, es.push (strEntry (sg, j)), by omega, by omega, by push_cast; rfl, Lib.hid ?_, Lib.hid ?_, Lib.hid ?_, Lib.hid ?_⟩
        · exact Array.getElem?_setIfInBounds_self_of_lt (by have := HM.out; exact (Array.getElem?_eq_some_iff.1 this).1)
        · rw [Array.toList_push]; exact HES2.out
        · rw [Array.getElem?_setIfInBounds_ne (by omega)]; exact HT.out
        · exact below_setObj HB.out (Nat.le_refl _) _
    · have hj27 : j = 27 := by omega
      subst hj27
      go_wp2_with fail
      go_ret
      exact ⟨w.heap.size, es, 27, rfl, HM.out, HES.out, HB.out⟩
end Go.Proofs.YteoleblodhgheaaDoor
