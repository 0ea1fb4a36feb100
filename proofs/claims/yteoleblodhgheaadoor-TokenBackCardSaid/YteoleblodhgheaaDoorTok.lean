import Derived.Test.YteoleblodhgheaaDoorProg
import Derived.Test.YteoleblodhgheaaDoorPTok
import Derived.WalkKit
import Derived.WalkSpells
import Derived.WalkLawsBesides
import Derived.BigQuiet
import Derived.Deep.QuietTactic
import Derived.Handy
import Derived.Lib.Hide
import Derived.Deep.LoopGhost
import Derived.Test.YteoleblodhgheaaDoorShelf
namespace Go.Proofs.YteoleblodhgheaaDoor
open Go.RowKit
set_option maxHeartbeats 400000
theorem ret_bool {a b : Bool} (h : a = b) : Ending.returned (.bool a) = .returned (.bool b) := by rw [h]
theorem ret_int {k : IntKind} {a b : Int} (h : a = b) : Ending.returned (.int k a) = .returned (.int k b) := by rw [h]

theorem digit_any (c : UInt8) (w : World) : Calls Tryd.prog 23 #[.int .u8 (c.toNat : Int)] w fun e w' => e = .returned (.bool (Tk.digit c)) ∧ w = w' := by
  go_enter Tryd.func23, Tryd.ntmps23
  go_wp2
  all_goals (go_ret; exact ⟨ret_bool (by rw [Bool.eq_iff_iff]; simp [Tk.digit]; try omega), rfl⟩)
theorem letter_any (c : UInt8) (w : World) : Calls Tryd.prog 24 #[.int .u8 (c.toNat : Int)] w fun e w' => e = .returned (.bool (Tk.letter c)) ∧ w = w' := by
  go_enter Tryd.func24, Tryd.ntmps24
  go_wp2
  all_goals (go_ret; exact ⟨ret_bool (by rw [Bool.eq_iff_iff]; simp [Tk.letter]; try omega), rfl⟩)
theorem blank_any (c : UInt8) (w : World) : Calls Tryd.prog 30 #[.int .u8 (c.toNat : Int)] w fun e w' => e = .returned (.bool (Tk.blank c)) ∧ w = w' := by
  go_enter Tryd.func30, Tryd.ntmps30
  go_wp2
  all_goals (go_ret; exact ⟨ret_bool (by rw [Bool.eq_iff_iff]; simp [Tk.blank, *]; try omega), rfl⟩)
theorem notnl_any (c : UInt8) (w : World) : Calls Tryd.prog 32 #[.int .u8 (c.toNat : Int)] w fun e w' => e = .returned (.bool (Tk.notnl c)) ∧ w = w' := by
  go_enter Tryd.func32, Tryd.ntmps32
  go_wp2
  all_goals (go_ret; exact ⟨ret_bool (by rw [Bool.eq_iff_iff]; simp [Tk.notnl]; try omega), rfl⟩)
theorem quote_any (c : UInt8) (w : World) : Calls Tryd.prog 35 #[.int .u8 (c.toNat : Int)] w fun e w' => e = .returned (.bool (Tk.quote c)) ∧ w = w' := by
  go_enter Tryd.func35, Tryd.ntmps35
  go_wp2
  all_goals (go_ret; exact ⟨ret_bool (by rw [Bool.eq_iff_iff]; simp [Tk.quote]; try omega), rfl⟩)
theorem alnum_any (c : UInt8) (w : World) : Calls Tryd.prog 42 #[.int .u8 (c.toNat : Int)] w fun e w' => e = .returned (.bool (Tk.alnum c)) ∧ w = w' := by
  go_enter Tryd.func42, Tryd.ntmps42
  cases h1 : Tk.letter c
  all_goals
    have l1 := letter_any c
    rw [h1] at l1
    go_wp2_with (first | (go_at_call 24; refine (l1 _).mono ?_; rintro e w' ⟨rfl, rfl⟩) | (go_at_call 23; refine (digit_any _ _).mono ?_; rintro e w' ⟨rfl, rfl⟩))
    go_ret
    exact ⟨ret_bool (by simp [Tk.alnum, h1]), rfl⟩

/-- How far bytes go that are so: whatever the function value that tells. -/
theorem far_any (s : ByteArray) (k0 : Nat) (hk0 : k0 ≤ s.size) (hs : s.size ≤ 9223372036854775806) (b : Nat) (w : World) (h0 : w.cell? ⟨b, 0, none⟩ = some (.string s)) (f : FuncId) (p : UInt8 → Bool)
    (hcf : ∀ (args : Array Value) (w : World), (callFunc f args).run Tryd.prog w = .ok (.enter f args) w)
    (hp : ∀ (c : UInt8) (w : World), Calls Tryd.prog f #[.int .u8 (c.toNat : Int)] w fun e w' => e = .returned (.bool (p c)) ∧ w = w') :
    Calls Tryd.prog 29 #[.pointer (some ⟨b, 0, none⟩), .int .i64 k0, .func (.func f) #[] #[]] w fun e w' => e = .returned (.int .i64 (Tk.far p s.data.toList k0)) ∧ w = w' := by
  have hl : s.data.toList.length = s.size := by rw [Array.length_toList]; rfl
  go_enter Tryd.func29, Tryd.ntmps29
  go_wp2
  go_loop [1] (fun i => ∃ k : Nat, k ≤ s.size ∧ i = .int .i64 k ∧ Hid (Tk.far p s.data.toList k = Tk.far p s.data.toList k0)) (fun i => s.size - (intOf i).toNat)
  case atStart => exact ⟨k0, hk0, rfl, rfl⟩
  case round =>
    obtain ⟨k, hk, rfl, hinv⟩ := hrel
    by_cases hlt : k < s.size
    · cases hpc : p s[k]
      · have hq := hp s[k]
        rw [hpc] at hq
        go_wp2_with (refine (hq _).mono ?_; rintro e w' ⟨rfl, rfl⟩)
        go_ret
        exact ⟨ret_int (by rw [← hinv.out, Tk.far_no _ _ _ (by omega) (by exact hpc)]), rfl⟩
      · have hq := hp s[k]
        rw [hpc] at hq
        go_wp2_with (refine (hq _).mono ?_; rintro e w' ⟨rfl, rfl⟩)
        exact ⟨⟨k + 1, by omega, by go_num, (Tk.far_yes p s.data.toList k (by omega) (by exact hpc)).trans hinv.out⟩, by simp [intOf]; omega⟩
    · go_wp2_with fail
      go_ret
      exact ⟨ret_int (by rw [← hinv.out, Tk.far_end _ _ _ (by omega)]), rfl⟩

/-- What was there stays, but for one block, which now holds o. -/
structure Upd (b : Nat) (o : Obj) (w w' : World) : Prop where
  os : w'.os = w.os
  tape : w'.tape = w.tape
  output : w'.output = w.output
  size : w.heap.size ≤ w'.heap.size
  now : w'.heap[b]? = some o
  block : ∀ k, k < w.heap.size → k ≠ b → w'.heap[k]? = w.heap[k]?
theorem Upd.refl {b : Nat} {o : Obj} {w : World} (h : w.heap[b]? = some o) : Upd b o w w := ⟨rfl, rfl, rfl, Nat.le_refl _, h, fun _ _ _ => rfl⟩
theorem Upd.trans {b : Nat} {o o1 : Obj} {w w1 w2 : World} (h : Upd b o w w1) (k : Upd b o1 w1 w2) : Upd b o1 w w2 :=
  ⟨k.os.trans h.os, k.tape.trans h.tape, k.output.trans h.output, Nat.le_trans h.size k.size, k.now, fun i hi hb => (k.block i (Nat.lt_of_lt_of_le hi h.size) hb).trans (h.block i hi hb)⟩
theorem Upd.drew {b : Nat} {o : Obj} {w w' : World} (h : Upd b o w w') : Upd b o w w'.drew := ⟨h.os, h.tape, h.output, h.size, h.now, h.block⟩
theorem Upd.drewN {b : Nat} {o : Obj} {w w' : World} (h : Upd b o w w') (n : Nat) : Upd b o w (w'.drewN n) := ⟨h.os, h.tape, h.output, h.size, h.now, h.block⟩
theorem Upd.below {b : Nat} {o : Obj} {w w1 w2 : World} (h : Upd b o w w1) (hb : b < w1.heap.size) (k : Below w1.heap.size w1 w2) : Upd b o w w2 :=
  ⟨k.os.trans h.os, k.tape.trans h.tape, k.output.trans h.output, Nat.le_trans h.size k.size, (k.block b hb).trans h.now, fun i hi hne => (k.block i (Nat.lt_of_lt_of_le hi h.size)).trans (h.block i hi hne)⟩
theorem Upd.alloc {b : Nat} {o : Obj} {w w' : World} (h : Upd b o w w') (x : Obj) : Upd b o w (w'.alloc x) := by
  have hb := (Array.getElem?_eq_some_iff.1 h.now).1
  have hs := h.size
  exact ⟨h.os, h.tape, h.output, by simp only [World.size_alloc]; omega, (Below.heap_alloc _ _ _ hb).trans h.now, fun i hi hne => (Below.heap_alloc _ _ _ (by omega)).trans (h.block i hi hne)⟩
theorem Upd.set {b : Nat} {cs : Array Value} {t : TypeId} {w w' : World} (h : Upd b (.cells cs t (0, 0)) w w') (i : Nat) (v : Value) : Upd b (.cells (cs.setIfInBounds i v) t (0, 0)) w (w'.setCell ⟨b, i, none⟩ v) := by
  refine ⟨h.os, h.tape, h.output, by simpa [World.setCell] using h.size, ?_, fun k hk hne => ?_⟩
  · simp [World.setCell, Array.getElem?_modify, h.now]
  · rw [Below.heap_setCell _ _ _ _ hne]
    exact h.block k hk hne
theorem Upd.setNew {b : Nat} {o : Obj} {w w' : World} (h : Upd b o w w') {r : Nat} (hr : w.heap.size ≤ r) (hne : r ≠ b) (i : Nat) (v : Value) : Upd b o w (w'.setCell ⟨r, i, none⟩ v) := by
  refine ⟨h.os, h.tape, h.output, by simpa [World.setCell] using h.size, ?_, fun k hk hkb => ?_⟩
  · rw [Below.heap_setCell _ _ _ _ (by simpa using Ne.symm hne)]; exact h.now
  · rw [Below.heap_setCell _ _ _ _ (by simp; omega)]; exact h.block k hk hkb
theorem Upd.keep {b : Nat} {o : Obj} {w w' : World} (h : Upd b o w w') {r : Nat} {x : Obj} (hr : w.heap[r]? = some x) (hne : r ≠ b) : w'.heap[r]? = some x :=
  (h.block r (Array.getElem?_eq_some_iff.1 hr).1 hne).trans hr
theorem below_keep {w w' : World} (h : Below w.heap.size w w') {r : Nat} {x : Obj} (hr : w.heap[r]? = some x) : w'.heap[r]? = some x :=
  (h.block r (Array.getElem?_eq_some_iff.1 hr).1).trans hr
theorem Upd.toBelow {b B : Nat} {o : Obj} {w w' : World} (h : Upd b o w w') (hb : B ≤ b) (hB : B ≤ w.heap.size) : Below B w w' :=
  ⟨h.os, h.tape, h.output, h.size, fun k hk => h.block k (by omega) (by omega)⟩
theorem blk_cell {w : World} {b : Nat} {cs : Array Value} {t : TypeId} {fr : Nat × Nat} (h : w.heap[b]? = some (.cells cs t fr)) (i : Nat) : w.cell? ⟨b, i, none⟩ = cs[i]? := by
  simp [World.cell?, h]
theorem blk_frozen {w : World} {b : Nat} {cs : Array Value} {t : TypeId} (h : w.heap[b]? = some (.cells cs t (0, 0))) (i : Nat) : w.frozen? ⟨b, i, none⟩ = false := by
  simp [World.frozen?, h]
theorem alloc_now (w : World) (o : Obj) : (w.alloc o).heap[w.heap.size]? = some o := heap_alloc_new w o
/-- A block of four cells: what a walk wants of it. -/
theorem cells4 {w : World} {r : Nat} {x0 x1 x2 x3 : Value} {t : TypeId} (h : w.heap[r]? = some (.cells #[x0, x1, x2, x3] t (0, 0))) :
    w.cell? ⟨r, 0, none⟩ = some x0 ∧ w.cell? ⟨r, 1, none⟩ = some x1 ∧ w.cell? ⟨r, 2, none⟩ = some x2 ∧ w.cell? ⟨r, 3, none⟩ = some x3 ∧
    w.frozen? ⟨r, 0, none⟩ = false ∧ w.frozen? ⟨r, 1, none⟩ = false ∧ w.frozen? ⟨r, 2, none⟩ = false ∧ w.frozen? ⟨r, 3, none⟩ = false :=
  ⟨(blk_cell h 0).trans rfl, (blk_cell h 1).trans rfl, (blk_cell h 2).trans rfl, (blk_cell h 3).trans rfl, blk_frozen h 0, blk_frozen h 1, blk_frozen h 2, blk_frozen h 3⟩
theorem ret_end : Ending.returned (.tuple #[]) = Ending.returned (.tuple #[]) := rfl

/-- The lexer's own variable. -/
def lexObj (s : ByteArray) (k : Nat) : Obj := .cells #[.string s, .int .i64 k] 38 (0, 0)

theorem lexObj_cells {s : ByteArray} {k b : Nat} {w : World} (h : w.heap[b]? = some (lexObj s k)) :
    w.cell? ⟨b, 0, none⟩ = some (.string s) ∧ w.cell? ⟨b, 1, none⟩ = some (.int .i64 k) ∧ w.frozen? ⟨b, 1, none⟩ = false :=
  ⟨(blk_cell h 0).trans rfl, (blk_cell h 1).trans rfl, blk_frozen h 1⟩

/-- .. by a name of the answer. -/
theorem far_k (s : ByteArray) (k : Nat) (hk : k ≤ s.size) (hs : s.size ≤ 9223372036854775806) (f : FuncId) (p : UInt8 → Bool)
    (hcf : ∀ (args : Array Value) (w : World), (callFunc f args).run Tryd.prog w = .ok (.enter f args) w)
    (hp : ∀ (c : UInt8) (w : World), Calls Tryd.prog f #[.int .u8 (c.toNat : Int)] w fun e w' => e = .returned (.bool (p c)) ∧ w = w')
    (k1 : Nat) (hk1 : k1 = Tk.far p s.data.toList k) :
    k ≤ k1 ∧ k1 ≤ s.size ∧ ∀ (b : Nat) (w : World), ∀ kk : Nat, w.heap[b]? = some (lexObj s kk) →
      Calls Tryd.prog 29 #[.pointer (some ⟨b, 0, none⟩), .int .i64 k, .func (.func f) #[] #[]] w fun e w' => e = .returned (.int .i64 k1) ∧ w = w' := by
  subst hk1
  refine ⟨Tk.far_ge _ _ _, ?_, fun b w kk h => far_any s k hk hs b w (lexObj_cells h).1 f p hcf hp⟩
  have := Tk.far_le p s.data.toList k (by rw [Array.length_toList]; exact hk)
  rwa [show s.data.toList.length = s.size by rw [Array.length_toList]; rfl] at this

end Go.Proofs.YteoleblodhgheaaDoor
