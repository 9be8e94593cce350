/- Two messages that may be have the same padding just if they have as many bytes. -/
import Derived.Test.YtljchidgchjoeaaSb18
import Derived.Test.YtljchidgchjoeaaRows
namespace Go.Proofs.Ytljchidgchjoeaa.padApart
open Go Go.Ax Go.RowKit

theorem own : ownKnob Try.prog.godebug = none := by kernel_rfl
theorem laidOut : laidOutB Try.prog = true := by kernel_rfl
theorem spec (H : Type) (ds : List (DataW H)) (h : ds.length = Try.f9.params.toList.length) : Rows.padApartSpec.fn H ds = { results := [.lit (.bool true)], args := ds } := by
  have e : Try.f9.params.toList.length = 3 := by kernel_rfl
  rw [e] at h
  match ds, h with
  | [_, _, _], _ => rfl

set_option maxRecDepth 100000 in
theorem lifted (os : Os) (started : os.Started) (H : Type) (enc : TypeId × Value → H) :
    ReturnsInHanded {} Try.checked os 9 .any (Rows.padApartSpec.pre6 enc Try.prog Try.f9 Rows.padApartRow.domain false) (Rows.padApartSpec.post enc Try.prog Try.f9 false true false false) :=
  law_lifted (K := Try.checked) own (by kernel_rfl) Try.func9 laidOut (by kernel_rfl) rfl Try.underlying4 rfl spec (fun W base args hsz hval => law_PadApart hsz hval) os started H enc
    (ChangeSpec.witness6 (enc := enc) (C := Try.checked) false ⟨#[], #[.agg (Array.replicate 2 (.int .u64 0)), .agg (Array.replicate 2 (.int .u64 0)), .bool false], []⟩ 8 (by kernel_rfl) (by kernel_rfl) (by kernel_rfl) (by kernel_rfl))

theorem row_holds : Rows.PadApartSaid :=
  OpenClaim.holds_of_wide 9 Try.f9 rfl rfl rfl rfl rfl rfl rfl ⟨rfl, rfl, rfl, rfl, rfl⟩ rfl rfl rfl rfl rfl (by kernel_rfl) Try.func9 (by kernel_rfl)
    (of_decide_eq_true (by kernel_rfl)) (by unfold Func.isWrapper; rw [if_neg (of_decide_eq_false (by kernel_rfl))]; exact ⟨rfl, rfl⟩)
    (fun os started H enc _ => lifted os started H enc)

#print axioms row_holds
end Go.Proofs.Ytljchidgchjoeaa.padApart
