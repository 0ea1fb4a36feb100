/- What the rows' lists give, and one start that fits them. -/
import Derived.Test.YteoleblodhgheaaDoorRows
import Derived.Test.YteoleblodhgheaaDoorTokE
import Derived.ProofKit
import Derived.OpenShut
import Derived.LaidMore
import Derived.Lay
import Derived.SevenTiedAt
import Derived.Stop.Joined
import Derived.Stop.LaidErr
import Derived.Lib.LaidTab
namespace Go.Proofs.YteoleblodhgheaaDoor
open Go.ChangeShapes Go.WideShapes Go.ChangeAt Go.RowKit
theorem own : ownKnob Tryd.prog.godebug = none := by kernel_rfl
theorem gRange : Tryd.prog.globalNamed "strconv.ErrRange" = some 4 := by kernel_rfl
theorem gRangeType : (Tryd.prog.globals[4]?).map (·.type) = some 61 := by kernel_rfl
theorem gSpaceType : (Tryd.prog.globals[0]?).map (·.type) = some 69 := by kernel_rfl
theorem gLast : Tryd.prog.globalNamed "math/bits.deBruijn64tab" = some 10 := by kernel_rfl
theorem cellsTab : Tryd.prog.cellsOf 69 = 256 := by kernel_rfl
theorem cellsByte : Tryd.prog.cellsOf 5 = 1 := by kernel_rfl
theorem laidSpace_eq : (Rows.laid_strings_asciiSpace : DataW Unit) = Lib.tabData .u8 Lib.asciiSpaceTab := by kernel_rfl
def laidAll : List (String × DataW Unit) := [("math/bits.deBruijn32tab", Rows.laid_math_bits_deBruijn32tab), ("math/bits.deBruijn64tab", Rows.laid_math_bits_deBruijn64tab), ("internal/strconv.uint64pow10", Rows.laid_internal_strconv_uint64pow10), ("unicode/utf8.acceptRanges", Rows.laid_unicode_utf8_acceptRanges), ("strconv.ErrRange", Rows.laid_strconv_ErrRange), ("strconv.ErrSyntax", Rows.laid_strconv_ErrSyntax), ("unicode.White_Space", Rows.laid_unicode_White_Space), ("strings.asciiSpace", Rows.laid_strings_asciiSpace), ("unicode.CaseRanges", Rows.laid_unicode_CaseRanges), ("unicode/utf8.first", Rows.laid_unicode_utf8_first)]
theorem laidAll_plain (W : World) : laidMetH Tryd.prog laidAll W = laidMet Tryd.prog laidAll W := MakeChecks.laidMetH_plain _ _ _ (by kernel_rfl)
theorem env_of {W : World} (h : laidMetH Tryd.prog laidAll W) : Env W := by
  rw [laidAll_plain] at h
  unfold laidAll at h
  refine ⟨?_, ?_, ?_⟩
  · have h2 := h.tail.tail.tail.tail.tail.tail.tail
    rw [laidSpace_eq] at h2
    exact Lib.tabIs_of_head gSpace gSpaceType Tryd.underlying69 Tryd.underlying5 cellsByte cellsTab h2
  · obtain ⟨ps, ⟨g0, t0, cs0, f0, p0, q0, hg0, ht0, hv0, hd0, _, _⟩, _, _⟩ := h.tail.tail.tail.tail
    obtain rfl := Option.some.inj (gRange.symm.trans hg0)
    obtain rfl := Option.some.inj (gRangeType.symm.trans ht0)
    obtain ⟨_, u, v, hcs, _, _⟩ := iface_of_trod Tryd.underlying61 hd0
    refine ⟨u, v, ?_⟩
    have := World.var?_cell hg0 hv0 0
    rw [this, ← Array.getElem?_toList, hcs]
    rfl
  · obtain ⟨ps, ⟨g0, t0, cs0, f0, p0, q0, hg0, ht0, hv0, hd0, _, _⟩, _, _⟩ := h.tail
    obtain rfl := Option.some.inj (gLast.symm.trans hg0)
    unfold World.var? at hv0
    rw [gLast] at hv0
    simp only [Option.bind_some] at hv0
    by_cases hlt : 10 < W.heap.size
    · exact hlt
    · rw [Array.getElem?_eq_none (by omega)] at hv0
      simp at hv0
theorem lay_fits (os : Os) : (World.holding Tryd.prog os ⟨#[], #[], []⟩).layFits Tryd.prog laidAll [] = true := by kernel_rfl
theorem lay_ifaces (os : Os) : (World.holding Tryd.prog os ⟨#[], #[], []⟩).layIfaces Tryd.prog laidAll (World.laidAll Tryd.prog os laidAll) = true := by kernel_rfl
theorem lay_shaped1 (os : Os) (args : Array Value) : ((World.laidAll Tryd.prog os laidAll).forCall (fun _ _ => 0) ⟨#[], args, []⟩).variablesZipB Tryd.prog = true := by kernel_rfl
theorem lay_met (os : Os) (args : Array Value) : laidMetH Tryd.prog laidAll ((World.laidAll Tryd.prog os laidAll).forCall (fun _ _ => 0) ⟨#[], args, []⟩).memory := by
  rw [laidAll_plain]
  exact laidMet_laidAll _ (lay_fits os) (lay_ifaces os)
end Go.Proofs.YteoleblodhgheaaDoor
