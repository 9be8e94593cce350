/- Any message, for any blocks, has the document's padding, as long as it says, or none. -/
import Derived.Test.YtljchidgchjoeaaSb17
import Derived.Test.YtljchidgchjoeaaRows
namespace Go.Proofs.Ytljchidgchjoeaa.padOf
open Go Go.Ax Go.RowKit

theorem own : ownKnob Try.prog.godebug = none := by kernel_rfl
theorem laidOut : laidOutB Try.prog = true := by kernel_rfl
theorem spec (H : Type) (ds : List (DataW H)) (h : ds.length = Try.f7.params.toList.length) : Rows.padOfSpec.fn H ds = { results := [.lit (.bool true)], args := ds } := by
  have e : Try.f7.params.toList.length = 2 := by kernel_rfl
  rw [e] at h
  match ds, h with
  | [_, _], _ => rfl

set_option maxRecDepth 100000 in
theorem lifted (os : Os) (started : os.Started) (H : Type) (enc : TypeId × Value → H) :
    ReturnsInHanded {} Try.checked os 7 .any (Rows.padOfSpec.pre6 enc Try.prog Try.f7 Rows.padOfRow.domain false) (Rows.padOfSpec.post enc Try.prog Try.f7 false true false false) :=
  law_lifted (K := Try.checked) own (by kernel_rfl) Try.func7 laidOut (by kernel_rfl) rfl Try.underlying4 rfl spec (fun W base args hsz hval => law_PadOf hsz hval) os started H enc
    (ChangeSpec.witness6 (enc := enc) (C := Try.checked) false ⟨#[], #[.agg (Array.replicate 2 (.int .u64 0)), .int .i64 0], []⟩ 8 (by kernel_rfl) (by kernel_rfl) (by kernel_rfl) (by kernel_rfl))

theorem row_holds : Rows.PadOfSaid :=
  OpenClaim.holds_of_wide 7 Try.f7 rfl rfl rfl rfl rfl rfl rfl ⟨rfl, rfl, rfl, rfl, rfl⟩ rfl rfl rfl rfl rfl (by kernel_rfl) Try.func7 (by kernel_rfl)
    (of_decide_eq_true (by kernel_rfl)) (by unfold Func.isWrapper; rw [if_neg (of_decide_eq_false (by kernel_rfl))]; exact ⟨rfl, rfl⟩)
    (fun os started H enc _ => lifted os started H enc)

#print axioms row_holds
end Go.Proofs.Ytljchidgchjoeaa.padOf
