/- What is left over of a sum is what is left over of what was left over. -/
import Derived.Test.YtljchidgchjoeaaSb9
import Derived.Test.YtljchidgchjoeaaRows
namespace Go.Proofs.Ytljchidgchjoeaa.countMods
open Go Go.Ax Go.RowKit

theorem own : ownKnob Try.prog.godebug = none := by kernel_rfl
theorem laidOut : laidOutB Try.prog = true := by kernel_rfl
theorem spec (H : Type) (ds : List (DataW H)) (h : ds.length = Try.f6.params.toList.length) : Rows.countModsSpec.fn H ds = { results := [.lit (.bool true)], args := ds } := by
  have e : Try.f6.params.toList.length = 3 := by kernel_rfl
  rw [e] at h
  match ds, h with
  | [_, _, _], _ => rfl

set_option maxRecDepth 100000 in
theorem lifted (os : Os) (started : os.Started) (H : Type) (enc : TypeId × Value → H) :
    ReturnsInHanded {} Try.checked os 6 .any (Rows.countModsSpec.pre6 enc Try.prog Try.f6 Rows.countModsRow.domain false) (Rows.countModsSpec.post enc Try.prog Try.f6 false true false false) :=
  law_lifted (K := Try.checked) own (by kernel_rfl) Try.func6 laidOut (by kernel_rfl) rfl Try.underlying4 rfl spec (fun W base args hsz hval => law_CountMods hsz hval) os started H enc
    (ChangeSpec.witness6 (enc := enc) (C := Try.checked) false ⟨#[], #[.agg (Array.replicate 2 (.int .u64 0)), .int .u32 0, .int .u16 0], []⟩ 8 (by kernel_rfl) (by kernel_rfl) (by kernel_rfl) (by kernel_rfl))

theorem row_holds : Rows.CountModsSaid :=
  OpenClaim.holds_of_wide 6 Try.f6 rfl rfl rfl rfl rfl rfl rfl ⟨rfl, rfl, rfl, rfl, rfl⟩ rfl rfl rfl rfl rfl (by kernel_rfl) Try.func6 (by kernel_rfl)
    (of_decide_eq_true (by kernel_rfl)) (by unfold Func.isWrapper; rw [if_neg (of_decide_eq_false (by kernel_rfl))]; exact ⟨rfl, rfl⟩)
    (fun os started H enc _ => lifted os started H enc)

#print axioms row_holds
end Go.Proofs.Ytljchidgchjoeaa.countMods
