/- The listed tables, as the executor knows them. -/
import Derived.Test.YtnghpimihklmdaaDoorZ14
import Derived.Conc.Holds
import Derived.SevenTiedAt
namespace Go.Proofs.YtnghpimihklmdaaDoor
open Go Go.Ax

def laidA : List (String × DataW Unit) := [("cribble/step.offsets", Rows.laid_cribble_step_offsets), ("cribble/step.constants", Rows.laid_cribble_step_constants)]

theorem gd_of_laid {W : World} (h : laidMetH Tryd.prog laidA W) : GD gdA W.heap.size W := by
  rw [MakeChecks.laidMetH_plain _ _ _ (by kernel_rfl)] at h
  have h0 : laidMet Tryd.prog (("cribble/step.offsets", Lib.tabData .i64 offs) :: [("cribble/step.constants", Lib.tabData .u64 rcs)]) W := h
  have h1 := Lib.tabIs_of_head (P := Tryd.prog) (g := 4) (t := 187) (e := 3) (by kernel_rfl) (by kernel_rfl) Tryd.underlying187 Tryd.underlying3 (by kernel_rfl) (by kernel_rfl) h0
  have h2 := Lib.tabIs_of_head (P := Tryd.prog) (g := 5) (t := 193) (e := 33) (by kernel_rfl) (by kernel_rfl) Tryd.underlying193 Tryd.underlying33 (by kernel_rfl) (by kernel_rfl) h0.tail
  intro p hp
  rcases List.mem_cons.1 hp with rfl | hp
  · exact gd_of_tab (by kernel_rfl) h1 (by decide)
  · rw [List.mem_singleton.1 hp]
    exact gd_of_tab (by kernel_rfl) h2 (by decide)

end Go.Proofs.YtnghpimihklmdaaDoor

/- Rows of programs that may start goroutines: a call that starts none. -/
namespace Go.Ax
open Go Go.RowKit

theorem leaving_of_alone {P : Program} {last : Machine} {w : World} {t : Trace} (h : aloneAtReturn P last w t) : leavingAtReturn P last w t := by
  obtain ⟨⟨h1, h2⟩, h3, h4⟩ := h
  refine ⟨h3, ⟨fun g hg => ⟨0, ?_⟩, h2⟩, h4⟩
  have h5 := List.all_eq_true.1 h1 g hg
  show g.status = .finished
  cases hq : g.status with
  | finished => rfl
  | _ => rw [hq] at h5; cases h5

theorem leaving_of_handed {a : Assume} {C : Checked} {os : Os} {f : FuncId} {r : Reach} {Pre : World → Array Value → Prop} {Post : World → Array Value → Value → World → Prop}
    (h : ReturnsInHanded a C os f r Pre Post) : ReturnsInLeavingWide a C os f r Pre Post := fun enter => by
  obtain ⟨h1, h2, h3, h4, h5⟩ := h enter
  refine ⟨h1, h2, h3, h4, fun w tape i hh => ?_⟩
  obtain ⟨n, v, w', q1, q2, q3, q4, ⟨j, last, r1, r2, r3⟩, q6⟩ := h5 w tape i hh
  exact ⟨n, v, w', q1, q2, q3, q4, ⟨j, last, r1, r2, leaving_of_alone r3⟩, q6⟩

/-- A tied card of a program that may start goroutines. -/
theorem holds_tied_goes (Lk : Looks) {p : Pinned} {s : OpenSpec} {c : OpenClaim} (kinds : List LaidKind) (tests : Bool) (har : Bool × String) (lk : Bool)
    (hc : c.holds p s) (hw : c.wfByText s = true) (htie : c.laidByTextAt Lk p kinds tests)
    (hst : c.start = .entering) (hnb : c.noBlocks = false ∧ c.again = false) (hm : p.checked.prog.mainIs = some (har.1, har.2.toList)) (hn : (!har.1 && har.2.isEmpty && !lk) = false)
    (hl : ∀ f fn, p.checked.prog.funcNamed c.func = some f → p.checked.prog.funcs[f]? = some fn → lk = p.checked.prog.looks [] ∧ ∀ (j : Nat) t, fn.params[j]? = some t → p.checked.prog.wantsStandIn t = false)
    (hg : true = c.goesBy p.checked.prog) :
    Claim7.holds p (.plain s) { stood := { row := c, standIns := [], harness := har, looks := lk }, kinds := [], alts := [], goes := true, laidByText := true, laidKinds := kinds, laidTests := tests, laidLooks := Lk } := by
  have h6 : ∀ r : OpenClaim, Claim7.isSixth { stood := { row := r, standIns := [], harness := har, looks := lk }, kinds := [] } = false := fun r => by simpa [Claim7.isSixth] using hn
  exact ⟨Claim7.tied_new_at Lk kinds tests (Claim7.new_of_sixth hc har lk hst hnb hm (h6 c) hl) hw, (fun D hD => by cases hD), htie, (fun h => by cases h), hg⟩
end Go.Ax
