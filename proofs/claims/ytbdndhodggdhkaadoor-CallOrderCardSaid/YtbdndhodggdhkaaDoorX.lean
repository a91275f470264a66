import Derived.Test.YtbdndhodggdhkaaDoorD52
import Derived.Test.YtbdndhodggdhkaaDoorRows
import Derived.Shelf.Vars
import Derived.Lay
import Derived.Stop.Joined
import Derived.Stop.LaidErr
set_option linter.unusedVariables false
namespace Go.Proofs.YtbdndhodggdhkaaDoor
open Go Go.Det Go.RowKit
theorem star : "*" ++ "errors.errorString" = "*errors.errorString" := by decide
theorem row134 (u : TypeId) (h : Tryd.prog.typeName? 3 u = some "*errors.errorString") : u = 129 :=
  typeName_ptr_named (nm := "errors.errorString") (by rw [star]; kernel_rfl) (by kernel_rfl) (by decide) u (by rw [star]; exact h)
theorem cells136 : Tryd.prog.cellsOf 131 = 1 := by kernel_rfl
theorem cells9 : Tryd.prog.cellsOf 9 = 1 := by kernel_rfl
theorem lt_cell {w : World} {g : Nat} {v : Value} (h : w.cell? ⟨g, 0, none⟩ = some v) : g < w.heap.size := by
  unfold World.cell? at h
  split at h
  · rename_i hh; exact (Array.getElem?_eq_some_iff.1 hh).1
  · cases h
/-- What the row lists is what the walks ask for. -/
theorem known {W : World} {a b : String × DataW Unit} (h : laidMet Tryd.prog [a, b, ("internal/strconv.uint64pow10", Rows.laid_internal_strconv_uint64pow10), ("strconv.ErrRange", Rows.laid_strconv_ErrRange), ("strconv.ErrSyntax", Rows.laid_strconv_ErrSyntax)] W) (hs : W.ShapedOpen Tryd.prog) : Laid W W.heap.size := by
  have e2 : (Rows.laid_internal_strconv_uint64pow10 : DataW Unit) = Lib.tabData .u64 Lib.pow10Tab := by kernel_rfl
  have k2 := laid_tab (g := 2) (n := 20) (by kernel_rfl) (t := 134) (e := 110) (by kernel_rfl) (by kernel_rfl) (by kernel_rfl) (by kernel_rfl) (by kernel_rfl) (e2 ▸ Lib.laidMet.reads h (List.mem_cons_of_mem _ (List.mem_cons_of_mem _ (List.mem_cons_self ..))))
  have h4 := h.tail.tail.tail
  have h3 := h4.tail
  obtain ⟨a4, s4, v4, _⟩ := laid_sentinel (g := 1) (ti := 73) (tp := 129) (te := 131) (ts := 9) h4 (by kernel_rfl) (by kernel_rfl) Tryd.underlying73 row134 Tryd.underlying129 Tryd.underlying131 rfl rfl Tryd.underlying9 cells136 cells9
  obtain ⟨a3, s3, v3, _⟩ := laid_sentinel (g := 0) (ti := 73) (tp := 129) (te := 131) (ts := 9) h3 (by kernel_rfl) (by kernel_rfl) Tryd.underlying73 row134 Tryd.underlying129 Tryd.underlying131 rfl rfl Tryd.underlying9 cells136 cells9
  have c4 : W.cell? ⟨1, 0, none⟩ = some (.iface 129 (.pointer (some a4))) := by simpa using World.var?_cell (g := 1) (by kernel_rfl) v4 0
  have c3 : W.cell? ⟨0, 0, none⟩ = some (.iface 129 (.pointer (some a3))) := by simpa using World.var?_cell (g := 0) (by kernel_rfl) v3 0
  refine ⟨fun p hp => ?_, fun g hg => ?_, fun g hg => ?_⟩
  · simp only [seatCells, List.mem_cons, List.mem_nil_iff, or_false] at hp
    subst hp
    exact k2
  · simp [seatInts] at hg
  · simp only [seatIfs, List.mem_cons, List.mem_nil_iff, or_false] at hg
    rcases hg with rfl | rfl
    · exact ⟨lt_cell c3, _, _, c3⟩
    · exact ⟨lt_cell c4, _, _, c4⟩
end Go.Proofs.YtbdndhodggdhkaaDoor
