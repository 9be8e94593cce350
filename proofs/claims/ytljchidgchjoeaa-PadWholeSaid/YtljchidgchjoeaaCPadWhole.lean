/- A message, and its padding, are whole blocks together, of which the last bytes tell the message's bits; none is longer than it has to be. -/
import Derived.Test.YtljchidgchjoeaaSb18
import Derived.Test.YtljchidgchjoeaaRows
namespace Go.Proofs.Ytljchidgchjoeaa.padWhole
open Go Go.Ax Go.RowKit

theorem own : ownKnob Try.prog.godebug = none := by kernel_rfl
theorem laidOut : laidOutB Try.prog = true := by kernel_rfl
theorem spec (H : Type) (ds : List (DataW H)) (h : ds.length = Try.f8.params.toList.length) : Rows.padWholeSpec.fn H ds = { results := [.lit (.bool true)], args := ds } := by
  have e : Try.f8.params.toList.length = 2 := by kernel_rfl
  rw [e] at h
  match ds, h with
  | [_, _], _ => rfl

set_option maxRecDepth 100000 in
theorem lifted (os : Os) (started : os.Started) (H : Type) (enc : TypeId × Value → H) :
    ReturnsInHanded {} Try.checked os 8 .any (Rows.padWholeSpec.pre6 enc Try.prog Try.f8 Rows.padWholeRow.domain false) (Rows.padWholeSpec.post enc Try.prog Try.f8 false true false false) :=
  law_lifted (K := Try.checked) own (by kernel_rfl) Try.func8 laidOut (by kernel_rfl) rfl Try.underlying4 rfl spec (fun W base args hsz hval => law_PadWhole hsz hval) os started H enc
    (ChangeSpec.witness6 (enc := enc) (C := Try.checked) false ⟨#[], #[.agg (Array.replicate 2 (.int .u64 0)), .bool false], []⟩ 8 (by kernel_rfl) (by kernel_rfl) (by kernel_rfl) (by kernel_rfl))

theorem row_holds : Rows.PadWholeSaid :=
  OpenClaim.holds_of_wide 8 Try.f8 rfl rfl rfl rfl rfl rfl rfl ⟨rfl, rfl, rfl, rfl, rfl⟩ rfl rfl rfl rfl rfl (by kernel_rfl) Try.func8 (by kernel_rfl)
    (of_decide_eq_true (by kernel_rfl)) (by unfold Func.isWrapper; rw [if_neg (of_decide_eq_false (by kernel_rfl))]; exact ⟨rfl, rfl⟩)
    (fun os started H enc _ => lifted os started H enc)

#print axioms row_holds
end Go.Proofs.Ytljchidgchjoeaa.padWhole
