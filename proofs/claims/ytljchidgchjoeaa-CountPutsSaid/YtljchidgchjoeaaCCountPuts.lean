/- Any count has its sixteen bytes, and is told from them; any other number of bytes is none's. -/
import Derived.Test.YtljchidgchjoeaaN4
import Derived.Test.YtljchidgchjoeaaRows
namespace Go.Proofs.Ytljchidgchjoeaa.countPuts
open Go Go.Ax Go.RowKit

theorem own : ownKnob Try.prog.godebug = none := by kernel_rfl
theorem laidOut : laidOutB Try.prog = true := by kernel_rfl
theorem spec (H : Type) (ds : List (DataW H)) (h : ds.length = Try.f5.params.toList.length) : Rows.countPutsSpec.fn H ds = { results := [.lit (.bool true)], args := ds } := by
  have e : Try.f5.params.toList.length = 2 := by kernel_rfl
  rw [e] at h
  match ds, h with
  | [_, _], _ => rfl

set_option maxRecDepth 100000 in
theorem lifted (os : Os) (started : os.Started) (H : Type) (enc : TypeId × Value → H) :
    ReturnsInHanded {} Try.checked os 5 .any (Rows.countPutsSpec.pre6 enc Try.prog Try.f5 Rows.countPutsRow.domain false) (Rows.countPutsSpec.post enc Try.prog Try.f5 false true false false) :=
  law_lifted_s (K := Try.checked) own (by kernel_rfl) Try.func5 laidOut (by kernel_rfl) rfl Try.underlying4 rfl spec (fun H enc W base args ds ps hT hval => law_CountPuts hT hval) os started H enc
    (ChangeSpec.witness6 (enc := enc) (C := Try.checked) false ⟨#[], #[.agg (Array.replicate 2 (.int .u64 0)), .slice none 0 0], []⟩ 8 (by kernel_rfl) (by kernel_rfl) (by kernel_rfl) (by kernel_rfl))

theorem row_holds : Rows.CountPutsSaid :=
  OpenClaim.holds_of_wide 5 Try.f5 rfl rfl rfl rfl rfl rfl rfl ⟨rfl, rfl, rfl, rfl, rfl⟩ rfl rfl rfl rfl rfl (by kernel_rfl) Try.func5 (by kernel_rfl)
    (of_decide_eq_true (by kernel_rfl)) (by unfold Func.isWrapper; rw [if_neg (of_decide_eq_false (by kernel_rfl))]; exact ⟨rfl, rfl⟩)
    (fun os started H enc _ => lifted os started H enc)

#print axioms row_holds
end Go.Proofs.Ytljchidgchjoeaa.countPuts
