/- Layer 17: the law CustomPrefixes. -/
import Derived.Test.YtpaphgdbfbkihaaDoorU3
namespace Go.Proofs.YtpaphgdbfbkihaaDoor
open Go Go.Ax

theorem up_eq (r : Int) (A B : List Int) : upB [[r], A, B] = ((decide (r = 136) || decide (r = 168)) && (maxB 1000 [A, B] && !emB [A, B])) := rfl
theorem gP_eq (r : Int) (A B : List Int) : gP [[r], A, B] = (decide (1 ≤ r) && decide (r ≤ 1000)) := rfl
theorem suf_eq (A B : List Int) : sufI [A, B] = iteI (emB [A, B]) 31 4 := rfl
theorem CP_sat {r : Int} {A B : List Int} {W : List (List Int) → List Int} (hA : A.length ≤ 1100) (hB : B.length ≤ 1100) :
    Out.sat isY (.br (upB [[r], A, B]) (.br (cmpI .eql r (136 : Int)) (CustomPrefixesT_3 E_same emB (maxB 1000) gP sufI W r A.length B.length A B) (.br (cmpI .eql r (168 : Int)) (CustomPrefixesT_3 E_same emB (maxB 1000) gP sufI W r A.length B.length A B) (CustomPrefixesT_2 emB (maxB 1000) sufI W r A.length B.length A B))) (.br (cmpI .eql r (136 : Int)) (CustomPrefixesT_6 E_same emB (maxB 1000) gP sufI W r A.length B.length A B) (.br (cmpI .eql r (168 : Int)) (CustomPrefixesT_6 E_same emB (maxB 1000) gP sufI W r A.length B.length A B) (CustomPrefixesT_5 emB (maxB 1000) sufI A.length B.length A B)))) := by
  unfold CustomPrefixesT_3 CustomPrefixesT_6 CustomPrefixesT_2 CustomPrefixesT_5 CustomPrefixesT_1 CustomPrefixesT_4 CustomPrefixesT_0
  simp only [partQ_all, up_eq, gP_eq, suf_eq, eql_d, E_self2]
  generalize hE : emB [A, B] = e
  generalize hM : maxB 1000 [A, B] = m
  generalize W [[r], A, B] = X
  by_cases h1 : r = 136
  · subst h1
    cases e <;> cases m <;> simp [Out.sat, isY, iteI, hA, hB, hE]
  · by_cases h2 : r = 168
    · subst h2
      cases e <;> cases m <;> simp [Out.sat, isY, iteI, hA, hB, hE]
    · cases e <;> cases m <;> simp [Out.sat, isY, iteI, hA, hB, hE, h1, h2]
set_option maxRecDepth 100000 in
theorem law_CustomPrefixes {H : Type} {enc : TypeId × Value → H} {W : World} {base : Nat} {args : Array Value} {ds : List (DataW H)} {ps : List MemPlace} (hT : DataW.TrodAll enc Tryd.prog W 0 (fun _ => true) true Tryd.f9.params.toList args.toList ds ps)
    (hval : ∀ (j : Nat) t v, Tryd.f9.params[j]? = some t → args[j]? = some v → Value.okWide Tryd.prog W .any base t v) (hgd : GD gdR W.heap.size W) :
    Calls Tryd.prog 9 args W fun e w' => e = .returned (.bool true) ∧ RowKit.Below W.heap.size W w' :=
  law_s (C := cCPre upB E_same emB (maxB 1000) longB gP sufI upW) cokCPre rfl rfl fn_CustomPrefixes (shs := [.one (.w .i64), shN]) (by kernel_rfl) 1000
    (fun Ms hok => ⟨_, run_CustomPrefixes upB E_same emB (maxB 1000) longB gP sufI upW ((Ms 0).getD 0 0) (Ms 1).length (Ms 2).length (Ms 1) (Ms 2), by
      generalize Ms 1 = A
      generalize Ms 2 = B
      generalize (Ms 0).getD 0 0 = r
      rw [partQ_all, partQ_all]
      refine ⟨by omega, by omega, fun _ => .inr rfl, fun hl => ⟨by omega, by omega, ?_⟩⟩
      have hl : (!(decide (A.length ≤ 1100) && decide (B.length ≤ 1100))) = false := hl
      simp only [Bool.not_eq_false', Bool.and_eq_true, decide_eq_true_eq] at hl
      exact CP_sat hl.1 hl.2⟩) hT hval hgd
end Go.Proofs.YtpaphgdbfbkihaaDoor
