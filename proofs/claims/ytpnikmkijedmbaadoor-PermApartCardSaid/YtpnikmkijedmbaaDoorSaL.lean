/- The listed tables, as the executor knows them. -/
import Derived.Test.YtpnikmkijedmbaaDoorSa1
namespace Go.Proofs.YtpnikmkijedmbaaDoor
open Go Go.Ax

def laidA : List (String × DataW Unit) := [("cribble/step.offsets", Rows.laid_cribble_step_offsets), ("cribble/step.constants", Rows.laid_cribble_step_constants)]

theorem gd_of_laid {W : World} (h : laidMetH Tryd.prog laidA W) : GD gdA W.heap.size W := by
  rw [MakeChecks.laidMetH_plain _ _ _ (by kernel_rfl)] at h
  have h0 : laidMet Tryd.prog (("cribble/step.offsets", Lib.tabData .i64 offs) :: [("cribble/step.constants", Lib.tabData .u64 rcs)]) W := h
  have h1 := Lib.tabIs_of_head (P := Tryd.prog) (g := 0) (t := 24) (e := 3) (by kernel_rfl) (by kernel_rfl) Tryd.underlying24 Tryd.underlying3 (by kernel_rfl) (by kernel_rfl) h0
  have h2 := Lib.tabIs_of_head (P := Tryd.prog) (g := 1) (t := 46) (e := 27) (by kernel_rfl) (by kernel_rfl) Tryd.underlying46 Tryd.underlying27 (by kernel_rfl) (by kernel_rfl) h0.tail
  intro p hp
  rcases List.mem_cons.1 hp with rfl | hp
  · exact gd_of_tab (by kernel_rfl) h1 (by decide)
  · rw [List.mem_singleton.1 hp]
    exact gd_of_tab (by kernel_rfl) h2 (by decide)

end Go.Proofs.YtpnikmkijedmbaaDoor
