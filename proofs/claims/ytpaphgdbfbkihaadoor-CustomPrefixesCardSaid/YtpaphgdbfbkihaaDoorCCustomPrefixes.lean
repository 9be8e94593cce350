/- any name has, at any rate, the document's prefix and suffix, or none. -/
import Derived.Test.YtpaphgdbfbkihaaDoorU5
import Derived.Test.YtpaphgdbfbkihaaDoorLv
import Derived.Test.YtpaphgdbfbkihaaDoorRows
import Derived.Test.YtpaphgdbfbkihaaDoorCards
import Derived.Test.YtpaphgdbfbkihaaDoorTie
import Derived.SevenTiedAt
import Derived.LaidMore
import Derived.Lay
namespace Go.Proofs.YtpaphgdbfbkihaaDoor.customPrefixes
open Go Go.Ax Go.RowKit

theorem own : ownKnob Tryd.prog.godebug = none := by kernel_rfl
theorem laidOut : laidOutB Tryd.prog = true := by kernel_rfl
theorem spec (H : Type) (ds : List (DataW H)) (h : ds.length = Tryd.f9.params.toList.length) : Rows.customPrefixesSpec.fn H ds = { results := [.lit (.bool true)], args := ds } := by
  have e : Tryd.f9.params.toList.length = 2 := by kernel_rfl
  rw [e] at h
  match ds, h with
  | [_, _], _ => rfl

def laid2 : List (String × DataW Unit) := [("unicode/utf8.acceptRanges", Rows.laid_unicode_utf8_acceptRanges), ("cribble/custom.rates", Rows.laid_cribble_custom_rates), ("unicode/utf8.first", Rows.laid_unicode_utf8_first)]
set_option maxRecDepth 100000 in
theorem lifted (os : Os) (started : os.Started) (H : Type) (enc : TypeId × Value → H) :
    ReturnsInHanded {} Tryd.checked os 9 .any (fun w args => (Rows.customPrefixesSpec.pre enc Tryd.prog Tryd.f9 [] false w args ∧ laidMetH Tryd.prog laid2 w) ∧ sizedMet enc Tryd.prog Tryd.f9 (OpenSpec.ofChange Rows.customPrefixesSpec) false w args)
      (Rows.customPrefixesSpec.post enc Tryd.prog Tryd.f9 false true false false) :=
  law_lifted_laid_s (K := Tryd.checked) own (by kernel_rfl) Tryd.func9 laidOut (by kernel_rfl) rfl Tryd.underlying4 rfl spec (fun H enc W base args ds ps hT hval hL => law_CustomPrefixes hT hval (gd_ratesH hL)) os started H enc
    (ChangeSpec.witness_shaped (enc := enc) (C := Tryd.checked) (os := os) (X := fun w _ => laidMetH Tryd.prog laid2 w) false (World.laidAll Tryd.prog os laid2) #[.int .i64 0, .agg #[.slice none 0 0, .slice none 0 0]] 8 (World.laidAll_os _ _ _) (World.shaped_of_ZipB (by kernel_rfl) (by kernel_rfl)) (by kernel_rfl) (by kernel_rfl) (by kernel_rfl)
      (by rw [MakeChecks.laidMetH_plain _ _ _ (by kernel_rfl)]; exact laidMet_laidAll _ (by kernel_rfl) (by kernel_rfl)))

theorem row_holds : Rows.CustomPrefixesSaid :=
  OpenClaim.holds_of_wide_leaving 9 Tryd.f9 rfl rfl rfl rfl rfl rfl rfl ⟨rfl, rfl, rfl, rfl, rfl⟩ rfl rfl rfl rfl rfl (by kernel_rfl) Tryd.func9 (by kernel_rfl)
    (of_decide_eq_true (by kernel_rfl)) (by unfold Func.isWrapper; rw [if_neg (of_decide_eq_false (by kernel_rfl))]; exact ⟨rfl, rfl⟩)
    (fun os started H enc _ => leaving_of_handed (lifted os started H enc))

theorem proved : Rows.CustomPrefixesCardSaid :=
  holds_tied_goes .later [.data, .data, .pinned] true (true, "e402c64eac660cabd3136ed3304ec4490ce9d5ff281bcb0e2d726cdea4322cf0") false
    row_holds (by kernel_rfl) customPrefixes_row_tie rfl ⟨rfl, rfl⟩ (by kernel_rfl) rfl
    (fun f fn hf hfn => by
      obtain rfl : f = 9 := Option.some.inj ((show Tryd.prog.funcNamed "cribble/cribblelaw17.CustomPrefixes" = some 9 by kernel_rfl).symm.trans hf) |>.symm
      obtain rfl : fn = Tryd.f9 := (Option.some.inj (Tryd.func9.symm.trans hfn)).symm
      exact ⟨by kernel_rfl, fun j t ht => by
        rw [Tryd.params9] at ht
        have hm : t ∈ [3, 34] := by have := Array.mem_of_getElem? ht; simp at this ⊢; first | exact this | omega | (rcases this with h | h | h <;> simp [h]; done) | (rcases this with h | h | h | h <;> simp [h]; done)
        have hall : ([3, 34].all fun u => !Tryd.prog.wantsStandIn u) = true := by kernel_rfl
        exact (show Tryd.prog.wantsStandIn t = false by simpa using List.all_eq_true.1 hall t hm)⟩)
    (by kernel_rfl)
#print axioms proved
end Go.Proofs.YtpaphgdbfbkihaaDoor.customPrefixes
