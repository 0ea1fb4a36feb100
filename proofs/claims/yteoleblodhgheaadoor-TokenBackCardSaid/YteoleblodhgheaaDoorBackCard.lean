/- TokenBack answers true for every text, every row of bytes, and either flag, and they read behind the call as they read before; under the conditions that the row and the card state: the listed tables of the library hold what the text of the program lays. -/
import Derived.Test.YteoleblodhgheaaDoorCards
import Derived.Test.YteoleblodhgheaaDoorTie
import Derived.Test.YteoleblodhgheaaDoorFrmD
import Derived.Test.YteoleblodhgheaaDoorTokQ
import Derived.ChangeMaps5
namespace Go.Proofs.YteoleblodhgheaaDoor
open Go.ChangeMaps Go.ChangeShapes Go.WideShapes Go.ChangeAt Go.RowKit
theorem range_byte {zs : List Int} (h : ∀ n ∈ zs, (Lit.int .u8 n).wf = true) (n : Int) (hn : n ∈ zs) : 0 ≤ n ∧ n < 256 := by
  have := h n hn
  simp [Lit.wf] at this
  have e1 : IntKind.u8.min = 0 := rfl
  have e2 : IntKind.u8.max = 255 := rfl
  omega
theorem back_any (s : ByteArray) (bl : List UInt8) (vb : Value) (caps : Bool) (w : World) (hE : Env w) (hb : BlanksAt w vb bl) : Calls Tryd.prog 4 #[.string s, vb, .bool caps] w (BoolPost w true) := by
  by_cases hs : s.size ≤ 1000
  · by_cases hn : bl.length ≤ 100
    · have hl : s.data.toList.length = s.size := by rw [Array.length_toList]; rfl
      obtain ⟨ws, r, h, h1 | ⟨c, cs, e, h1, h2, h3, h4⟩⟩ := Tk.lex_cases s.data.toList (by omega)
      · have ht := Tk.told_of h
        have h5 := h1.2
        rw [hl] at ht h5
        exact back_laid s bl vb caps w hE hb hs hn _ ht h5
      · exact back_bad s bl vb caps w hE hb hs hn _ e h4 h3
    · exact back_big s bl vb caps w hE hb (Or.inr ⟨hs, by omega⟩)
  · exact back_big s bl vb caps w hE hb (Or.inl (by omega))
set_option maxRecDepth 100000 in
/-- The bytes that came in. -/
theorem open_blanks {H : Type} {enc : TypeId × Value → H} {W : World} {base : Nat} {v : Value} {d : DataW H} {p : List MemPlace} (hval : Value.okWide Tryd.prog W .any base 29 v) (h : DataW.Trod enc Tryd.prog W 0 (fun _ => true) true 29 v d p) :
    ∃ bl, BlanksAt W v bl ∧ ∀ W' : World, (∀ k, k < W.heap.size → W'.heap[k]? = W.heap[k]?) → DataW.Trod enc Tryd.prog W' 0 (fun b => decide (b < W.heap.size)) true 29 v d p := by
  obtain ⟨a1, len, cap, rfl⟩ := okWide_slice Tryd.underlying29 hval
  obtain ⟨fuel, hf⟩ := h
  rcases open_ints Tryd.underlying29 Tryd.underlying5 cellsByte hf with ⟨hcs, hx⟩ | ⟨a, len', cap', zs, hcs, _, hl, hm, hz, hx, hcell, hwz⟩
  · simp [Value.cells] at hcs
    obtain ⟨rfl, rfl, rfl⟩ := hcs
    simp only [Prod.mk.injEq] at hx
    obtain ⟨rfl, rfl⟩ := hx
    exact ⟨[], ⟨none, 0, rfl, Nat.le_refl _, fun i h => by simp at h⟩, fun W' _ => ⟨1, by simp [DataW.trod, Value.cells, Tryd.underlying29]⟩⟩
  · simp [Value.cells] at hcs
    obtain ⟨rfl, rfl, rfl⟩ := hcs
    simp only [Prod.mk.injEq] at hx
    obtain ⟨rfl, rfl⟩ := hx
    simp only [if_true] at hz
    have hlen : ((zs.take len).map fun n => UInt8.ofNat n.toNat).length = len := by simp; omega
    have hblk : ∀ i, i < zs.length → a.block < W.heap.size := by
      intro i hi
      have hc := hcell i hi
      have := World.block_lt_of_cell? W _ hc
      have hbk : (a.add i).block = a.block := by unfold Addr.add; split <;> rfl
      rwa [hbk] at this
    refine ⟨(zs.take len).map fun n => UInt8.ofNat n.toNat, ⟨some a, cap, by rw [hlen], by rw [hlen]; exact hl, fun i hi => ⟨a, rfl, ?_, ?_⟩⟩, fun W' hk => ⟨2, ?_⟩⟩
    · rw [hlen] at hi
      rw [hcell i (by omega)]
      have e : zs.getD i 0 = zs[i]'(by omega) := by simp [List.getD, List.getElem?_eq_getElem (show i < zs.length by omega)]
      have hr := range_byte hwz (zs[i]'(by omega)) (List.getElem_mem _)
      simp only [List.getElem_map, List.getElem_take]
      rw [e]
      congr 2
      simp only [UInt8.toNat_ofNat']
      omega
    · rw [hlen] at hi
      exact hblk i (by omega)
    · refine shut_ints 0 Tryd.underlying29 Tryd.underlying5 cellsByte (Nat.zero_le _) hl hm ?_ (fun i hi => ?_) hwz
      · by_cases hc0 : cap = 0
        · rw [hz]
          split <;> omega
        · rw [hz, if_pos (by simpa using hblk 0 (by omega))]
      · have hbk : (a.add i).block = a.block := by unfold Addr.add; split <;> rfl
        exact (World.cell?_of_block (w := W) (a := a.add i) (by rw [hbk]; exact hk _ (hblk i hi))).trans (hcell i hi)
set_option maxRecDepth 100000 in
theorem back_lifted (os : Os) (started : os.Started) (H : Type) (enc : TypeId × Value → H) :
    ReturnsInHanded {} Tryd.checked os 4 .any (fun w args => (Rows.tokenBackSpec.pre enc Tryd.prog Tryd.f4 [] false w args ∧ laidMetH Tryd.prog laidAll w) ∧ sizedMet enc Tryd.prog Tryd.f4 (OpenSpec.ofChange Rows.tokenBackSpec) false w args)
      (Rows.tokenBackSpec.post enc Tryd.prog Tryd.f4 false true false false) := by
  refine returnsInHanded_of_change_and (C := Tryd.checked) (X := fun w _ => laidMetH Tryd.prog laidAll w) (fun _ _ _ hh h => h.of_heap hh) own started (by kernel_rfl) Tryd.func4
    (ChangeSpec.witness_shaped (enc := enc) (C := Tryd.checked) (os := os) (X := fun w _ => laidMetH Tryd.prog laidAll w) false (World.laidAll Tryd.prog os laidAll) #[.string ⟨#[]⟩, .slice none 0 0, .bool false] 8 (World.laidAll_os _ _ _)
      (World.shaped_of_ZipB (lay_shaped1 os _) (by kernel_rfl)) (by kernel_rfl) (by kernel_rfl) (by kernel_rfl)
      (lay_met os _)) ?_
  intro W base args ds gs before hval0 hW hc _ hL _
  have hval : ∀ (j : Nat) t v, Tryd.f4.params[j]? = some t → args[j]? = some v → Value.okWide Tryd.prog W .any base t v := hval0
  have hW' := hW
  obtain ⟨p, q, hA0, hV, rfl, _, _⟩ := hW
  have hA : DataW.TrodAll enc Tryd.prog W 0 (fun _ => true) true Tryd.f4.params.toList args.toList ds p := hA0
  rw [Tryd.params4] at hA hval
  obtain ⟨v0, v1, v2, d0, d1, d2, p0, p1, p2, rfl, rfl, rfl, h0, h1, h2⟩ := trodAll_three hA
  obtain ⟨rfl, rfl⟩ := trodVars_none hV
  obtain ⟨s, rfl, rfl, rfl, ws⟩ := open_string Tryd.underlying9 (hval 0 9 v0 rfl rfl) h0
  obtain ⟨bl, hbl, hsh⟩ := open_blanks (hval 1 29 v1 rfl rfl) h1
  obtain ⟨c, rfl, rfl, rfl⟩ := open_bool Tryd.underlying4 (hval 2 4 v2 rfl rfl) h2
  simp only [List.append_nil] at hW'
  refine (back_any s bl v1 c W (env_of hL) hbl).mono fun e W' ⟨he, hb⟩ => ?_
  subst he
  refine ⟨_, rfl, _, _, _, [], _, [], hW', trodAll_mk1 (shut_bool Tryd.underlying4 _), trodAll_mk3 (shut_string Tryd.underlying9 ws) (hsh W' fun k hk => hb.block k hk) (shut_bool Tryd.underlying4 _), rfl, ?_, fun h => by cases h⟩
  exact World.keptBut_mono (fun p hp => ⟨hp, Or.inr (Or.inl (by simpa using hp))⟩) (hb.frame _)
theorem back_said : Rows.TokenBackSaid :=
  OpenClaim.holds_of_wide 4 Tryd.f4 rfl rfl rfl rfl rfl rfl rfl ⟨rfl, rfl, rfl, rfl, rfl⟩ rfl rfl rfl rfl rfl (by kernel_rfl) Tryd.func4 (by kernel_rfl)
    (of_decide_eq_true (by kernel_rfl)) (by unfold Func.isWrapper; first | (rw [if_pos (by decide +kernel)]; kernel_rfl) | (rw [if_neg (by decide +kernel)]; exact ⟨rfl, rfl⟩))
    (fun os started H enc _ => back_lifted os started H enc)
theorem back_plain (f : FuncId) (fn : Func) (hf : Tryd.pinned.checked.prog.funcNamed "tideline/tidelinelaw12.TokenBack" = some f) (hfn : Tryd.pinned.checked.prog.funcs[f]? = some fn) :
    true = Tryd.pinned.checked.prog.looks [] ∧ ∀ (j : Nat) t, fn.params[j]? = some t → Tryd.pinned.checked.prog.wantsStandIn t = false := by
  obtain rfl : f = 4 := Option.some.inj ((show Tryd.prog.funcNamed "tideline/tidelinelaw12.TokenBack" = some 4 by kernel_rfl).symm.trans hf) |>.symm
  obtain rfl : fn = Tryd.f4 := (Option.some.inj (Tryd.func4.symm.trans hfn)).symm
  refine ⟨by kernel_rfl, fun j t ht => ?_⟩
  rw [Tryd.params4] at ht
  have hm : t ∈ [9, 29, 4] := by simpa using Array.mem_of_getElem? ht
  have hall : ([9, 29, 4].all fun u => !Tryd.prog.wantsStandIn u) = true := by kernel_rfl
  exact (show Tryd.prog.wantsStandIn t = false by simpa using List.all_eq_true.1 hall t hm)
theorem back_holds : Rows.TokenBackCardSaid :=
  Claim7.holds_tied_plain_at .later [] _ _ _ _ back_said (fun _ h => by cases h) (by kernel_rfl) (fun _ h => by cases h) tokenBack_row_tie rfl ⟨rfl, rfl⟩ (by kernel_rfl) rfl back_plain (by kernel_rfl)
end Go.Proofs.YteoleblodhgheaaDoor
