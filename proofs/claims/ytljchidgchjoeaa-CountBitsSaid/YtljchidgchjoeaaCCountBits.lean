/- Any count is compared, as bits, left over by any number, and asked whether it fits, as the document says. -/
import Derived.Test.YtljchidgchjoeaaSb10
import Derived.Test.YtljchidgchjoeaaRows
namespace Go.Proofs.Ytljchidgchjoeaa.countBits
open Go Go.Ax Go.RowKit

theorem own : ownKnob Try.prog.godebug = none := by kernel_rfl
theorem laidOut : laidOutB Try.prog = true := by kernel_rfl
theorem spec (H : Type) (ds : List (DataW H)) (h : ds.length = Try.f10.params.toList.length) : Rows.countBitsSpec.fn H ds = { results := [.lit (.bool true)], args := ds } := by
  have e : Try.f10.params.toList.length = 3 := by kernel_rfl
  rw [e] at h
  match ds, h with
  | [_, _, _], _ => rfl

set_option maxRecDepth 100000 in
theorem lifted (os : Os) (started : os.Started) (H : Type) (enc : TypeId × Value → H) :
    ReturnsInHanded {} Try.checked os 10 .any (Rows.countBitsSpec.pre6 enc Try.prog Try.f10 Rows.countBitsRow.domain false) (Rows.countBitsSpec.post enc Try.prog Try.f10 false true false false) :=
  law_lifted (K := Try.checked) own (by kernel_rfl) Try.func10 laidOut (by kernel_rfl) rfl Try.underlying4 rfl spec (fun W base args hsz hval => law_CountBits hsz hval) os started H enc
    (ChangeSpec.witness6 (enc := enc) (C := Try.checked) false ⟨#[], #[.agg (Array.replicate 2 (.int .u64 0)), .agg (Array.replicate 2 (.int .u64 0)), .int .i64 0], []⟩ 8 (by kernel_rfl) (by kernel_rfl) (by kernel_rfl) (by kernel_rfl))

theorem row_holds : Rows.CountBitsSaid :=
  OpenClaim.holds_of_wide 10 Try.f10 rfl rfl rfl rfl rfl rfl rfl ⟨rfl, rfl, rfl, rfl, rfl⟩ rfl rfl rfl rfl rfl (by kernel_rfl) Try.func10 (by kernel_rfl)
    (of_decide_eq_true (by kernel_rfl)) (by unfold Func.isWrapper; rw [if_neg (of_decide_eq_false (by kernel_rfl))]; exact ⟨rfl, rfl⟩)
    (fun os started H enc _ => lifted os started H enc)

#print axioms row_holds
end Go.Proofs.Ytljchidgchjoeaa.countBits
