/- Two states come to the same by the permutation just if they are the same. -/
import Derived.Test.YtpnikmkijedmbaaDoorSp11
import Derived.Test.YtpnikmkijedmbaaDoorSaL
import Derived.Test.YtpnikmkijedmbaaDoorRows
import Derived.Test.YtpnikmkijedmbaaDoorCards
import Derived.Test.YtpnikmkijedmbaaDoorTie
import Derived.SevenTiedAt
import Derived.LaidMore
namespace Go.Proofs.YtpnikmkijedmbaaDoor.permApart
open Go Go.Ax Go.RowKit

theorem own : ownKnob Tryd.prog.godebug = none := by kernel_rfl
theorem laidOut : laidOutB Tryd.prog = true := by kernel_rfl
theorem spec (H : Type) (ds : List (DataW H)) (h : ds.length = Tryd.f11.params.toList.length) : Rows.permApartSpec.fn H ds = { results := [.lit (.bool true)], args := ds } := by
  have e : Tryd.f11.params.toList.length = 3 := by kernel_rfl
  rw [e] at h
  match ds, h with
  | [_, _, _], _ => rfl

def laid2 : List (String × DataW Unit) := [("cribble/step.offsets", Rows.laid_cribble_step_offsets), ("cribble/step.constants", Rows.laid_cribble_step_constants)]
theorem door_met (os : Os) (args : Array Value) : laidMetH Tryd.prog laid2 ((World.doorLaid Tryd.prog 400 os).forCall (fun _ _ => 0) ⟨#[], args, []⟩).memory :=
  laidMetH_of_parts3 (fuel := 8) (laidMet_of_run' 8 (by kernel_rfl) (by kernel_rfl)) (by kernel_rfl) (by kernel_rfl)

set_option maxRecDepth 100000 in
theorem lifted (os : Os) (started : os.Started) (H : Type) (enc : TypeId × Value → H) :
    ReturnsInHanded {} Tryd.checked os 11 .any (fun w args => (Rows.permApartSpec.pre enc Tryd.prog Tryd.f11 [] false w args ∧ laidMetH Tryd.prog laid2 w) ∧ sizedMet enc Tryd.prog Tryd.f11 (OpenSpec.ofChange Rows.permApartSpec) false w args)
      (Rows.permApartSpec.post enc Tryd.prog Tryd.f11 false true false false) :=
  law_lifted_laid (K := Tryd.checked) own (by kernel_rfl) Tryd.func11 laidOut (by kernel_rfl) rfl Tryd.underlying4 rfl spec (fun W base args hsz hval hL => law_PermApart hsz hval (gd_of_laid hL)) os started H enc
    (ChangeSpec.witness_shaped (enc := enc) (C := Tryd.checked) (os := os) (X := fun w _ => laidMetH Tryd.prog laid2 w) false (World.doorLaid Tryd.prog 400 os) #[.agg (Array.replicate 25 (.int .u64 0)), .int .u8 0, .int .u64 0] 8 rfl (World.shaped_of_RefB (by kernel_rfl) (by kernel_rfl)) (by kernel_rfl) (by kernel_rfl) (by kernel_rfl) (door_met os _))

theorem row_holds : Rows.PermApartSaid :=
  OpenClaim.holds_of_wide 11 Tryd.f11 rfl rfl rfl rfl rfl rfl rfl ⟨rfl, rfl, rfl, rfl, rfl⟩ rfl rfl rfl rfl rfl (by kernel_rfl) Tryd.func11 (by kernel_rfl)
    (of_decide_eq_true (by kernel_rfl)) (by unfold Func.isWrapper; rw [if_neg (of_decide_eq_false (by kernel_rfl))]; exact ⟨rfl, rfl⟩)
    (fun os started H enc _ => lifted os started H enc)

theorem proved : Rows.PermApartCardSaid :=
  Claim7.holds_tied_plain_at .later [] [.data, .data] true (true, "6e31e28101501c86e0825771b57d1e57372664e2ad612ff584a29865f5dc439b") false
    row_holds (fun _ h => by cases h) (by kernel_rfl) (fun _ h => by cases h) permApart_row_tie rfl ⟨rfl, rfl⟩ (by kernel_rfl) rfl
    (fun f fn hf hfn => by
      obtain rfl : f = 11 := Option.some.inj ((show Tryd.prog.funcNamed "cribble/cribblelaw13.PermApart" = some 11 by kernel_rfl).symm.trans hf) |>.symm
      obtain rfl : fn = Tryd.f11 := (Option.some.inj (Tryd.func11.symm.trans hfn)).symm
      exact ⟨by kernel_rfl, fun j t ht => by
        rw [Tryd.params11] at ht
        have hm : t ∈ [29, 5, 27] := by have := Array.mem_of_getElem? ht; simp at this ⊢; first | exact this | omega | simp_all
        have hall : ([29, 5, 27].all fun u => !Tryd.prog.wantsStandIn u) = true := by kernel_rfl
        exact (show Tryd.prog.wantsStandIn t = false by simpa using List.all_eq_true.1 hall t hm)⟩)
    (by kernel_rfl)
#print axioms proved
end Go.Proofs.YtpnikmkijedmbaaDoor.permApart
