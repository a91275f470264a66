import Derived.Test.YtcephcgnfmcdhaaDoorD52
import Derived.Test.YtcephcgnfmcdhaaDoorRows
import Derived.Shelf.Vars
import Derived.Lay
import Derived.Stop.Joined
set_option linter.unusedVariables false
namespace Go.Proofs.YtcephcgnfmcdhaaDoor
open Go Go.Det Go.RowKit
/-- What the row lists is what the walks ask for. -/
theorem known {l : List (String × DataW Unit)} (h1 : ("math/bits.deBruijn64tab", Rows.laid_math_bits_deBruijn64tab) ∈ l) (h2 : ("internal/strconv.uint64pow10", Rows.laid_internal_strconv_uint64pow10) ∈ l)
    {W : World} (h : laidMet Tryd.prog l W) (hs : W.ShapedOpen Tryd.prog) : Laid W W.heap.size := by
  have e1 : (Rows.laid_math_bits_deBruijn64tab : DataW Unit) = Lib.tabData .u8 (Lib.deBruijn64tab.map fun n => ((n : Nat) : Int)) := by kernel_rfl
  have e2 : (Rows.laid_internal_strconv_uint64pow10 : DataW Unit) = Lib.tabData .u64 Lib.pow10Tab := by kernel_rfl
  have k1 := laid_tab (g := 0) (n := 64) (by kernel_rfl) (t := 64) (e := 5) (by kernel_rfl) (by kernel_rfl) (by kernel_rfl) (by kernel_rfl) (by kernel_rfl) (e1 ▸ Lib.laidMet.reads h h1)
  have k2 := laid_tab (g := 2) (n := 20) (by kernel_rfl) (t := 93) (e := 22) (by kernel_rfl) (by kernel_rfl) (by kernel_rfl) (by kernel_rfl) (by kernel_rfl) (e2 ▸ Lib.laidMet.reads h h2)
  obtain ⟨m, hm⟩ := cell_of_shapedOpen_int (P := Tryd.prog) (g := 1) (t := 3) (zero := #[.int .i64 0]) hs (of_decide_eq_true (by kernel_rfl)) (by kernel_rfl) rfl (by kernel_rfl) (by kernel_rfl) (by kernel_rfl)
  refine ⟨fun p hp => ?_, fun g hg => ?_⟩
  · simp only [seatCells, List.mem_cons, List.mem_nil_iff, or_false] at hp
    rcases hp with rfl | rfl
    · refine ⟨k1.1, ?_⟩
      have := k1.2
      rw [List.map_map] at this
      exact this
    · exact k2
  · simp only [seatInts, List.mem_cons, List.mem_nil_iff, or_false] at hg
    subst hg
    refine ⟨?_, m, hm⟩
    have h3 := hm
    unfold World.cell? at h3
    split at h3
    · rename_i hh; exact (Array.getElem?_eq_some_iff.1 hh).1
    · cases h3
end Go.Proofs.YtcephcgnfmcdhaaDoor
