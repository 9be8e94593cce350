/- Layer 04: comparisons; the law CountOrder. -/
import Derived.Test.YtljchidgchjoeaaSb5
namespace Go.Proofs.Ytljchidgchjoeaa
open Go Go.Ax

/-! ## Comparing -/

def cmpV (a b : Int) : Int := iteI (decide (a < b)) (-1) (iteI (decide (a > b)) 1 0)
theorem fn_isNaN : FnOk Try.prog 47 Try.f47 := ⟨Try.func47, by kernel_rfl⟩
theorem run_isNaN (x : Int) : callA (cfgB [] [] []) false 100 Try.f47 [.one (.si .u64 x)] (memG gdB) = .done (.one (.sb (cmpI .neq x x))) Mem.empty := by kernel_rfl
def p_isNaN := (47, gsum [.w .u64] (fun _ => []) fun _ => .p (.b false))
theorem ps_isNaN : PSOk (cfgB [] [] []) p_isNaN.1 p_isNaN.2 :=
  psok_e (C := cfgB [] [] []) (cokB (by simp) (by simp) (by simp)) rfl rfl fn_isNaN rfl 100 (fun fs => [.one (.si .u64 (fs 0 0))]) (fun _ => rfl) fun fs _ _ =>
    ⟨_, run_isNaN (fs 0 0), sat_same (by rw [show cmpI .neq (fs 0 0) (fs 0 0) = false by simp [cmpI]]; rfl)⟩
theorem fn_cmp : FnOk Try.prog 40 Try.f40 := ⟨Try.func40, by kernel_rfl⟩
def li64 (n : Int) : Out := .done (.one (.li .i64 n)) Mem.empty
theorem run_cmp2 (x y : Int) : callA (cfgB [] [p_isNaN] []) false 1000 Try.f40 [.one (.si .u64 x), .one (.si .u64 y)] (memG gdB) =
    .br false (.br false (li64 0) (li64 (-1))) (.br false (li64 1) (.br (cmpI .lss x y) (li64 (-1)) (.br (cmpI .gtr x y) (li64 1) (li64 0)))) := by kernel_rfl
def p_cmp := (40, gsum [.w .u64, .w .u64] (fun _ => []) fun l => .p (.w .i64 (cmpV (one l 0) (one l 1))))
theorem cmpV_lt {a b : Int} (h : a < b) : cmpV a b = -1 := by unfold cmpV; rw [decide_eq_true h]; rfl
theorem cmpV_gt {a b : Int} (h : a > b) : cmpV a b = 1 := by unfold cmpV; rw [decide_eq_false (by omega), decide_eq_true h]; rfl
theorem cmpV_eq {a b : Int} (h : a = b) : cmpV a b = 0 := by unfold cmpV; rw [decide_eq_false (by omega), decide_eq_false (by omega)]; rfl
theorem ps_cmp : PSOk (cfgB [] [] []) p_cmp.1 p_cmp.2 :=
  upB (psok_e (C := cfgB [] [p_isNaN] []) (cokB (by simp) (by simp [ps_isNaN]) (by simp)) rfl rfl fn_cmp rfl 1000 (fun fs => [.one (.si .u64 (fs 0 0)), .one (.si .u64 (fs 1 0))]) (fun _ => rfl) fun fs _ _ => by
    refine ⟨_, run_cmp2 (fs 0 0) (fs 1 0), fun h => by (cases h), fun _ => ⟨fun h => by (cases h), fun _ => ⟨fun h => sat_sym ?_ rfl, fun h => ⟨fun h2 => sat_sym ?_ rfl, fun h2 => sat_sym ?_ rfl⟩⟩⟩⟩
    all_goals show AV.sym _ = AV.one (.si .i64 (cmpV (fs 0 0) (fs 1 0)))
    · rw [cmpV_lt (of_decide_eq_true h)]; rfl
    · rw [cmpV_gt (of_decide_eq_true h2)]; rfl
    · have h := of_decide_eq_false h
      have h2 := of_decide_eq_false h2
      rw [cmpV_eq (by omega)]; rfl)

theorem fn_Or : FnOk Try.prog 39 Try.f39 := ⟨Try.func39, by kernel_rfl⟩
theorem fn_CCompare : FnOk Try.prog 17 Try.f17 := ⟨Try.func17, by kernel_rfl⟩
theorem run_CCompare (h l k m : Int) : callA (cfgB [(39, Try.f39)] [p_cmp] []) false 1000 Try.f17 [C2 h l, C2 k m] (memG gdB) =
    .br (eqL [h, l] [k, m]) (li64 0) (.br (cmpI .neq (cmpV h k) 0) (.done (.one (.si .i64 (cmpV h k))) Mem.empty) (.br (cmpI .neq (cmpV l m) 0) (.done (.one (.si .i64 (cmpV l m))) Mem.empty) (li64 0))) := by kernel_rfl
def T_Cmp : List (List Int) → GR := fun l => .p (.w .i64 (cmpV (valC (at2 l 0 0) (at2 l 0 1)) (valC (at2 l 1 0) (at2 l 1 1))))
def p_CCompare := (17, gsum [.l .u64 2, .l .u64 2] (fun _ => []) T_Cmp)
theorem cmpV_cases (a b : Int) : (a < b ∧ cmpV a b = -1) ∨ (a > b ∧ cmpV a b = 1) ∨ (a = b ∧ cmpV a b = 0) := by
  rcases Int.lt_trichotomy a b with h | h | h
  · exact .inl ⟨h, cmpV_lt h⟩
  · exact .inr (.inr ⟨h, cmpV_eq h⟩)
  · exact .inr (.inl ⟨h, cmpV_gt h⟩)
theorem ps_CCompare : PSOk (cfgB [] [] []) p_CCompare.1 p_CCompare.2 :=
  upB (psok_e (C := cfgB [(39, Try.f39)] [p_cmp] []) (cokB (by simp [fn_Or]) (by simp [ps_cmp]) (by simp)) rfl rfl fn_CCompare rfl 1000 (fun fs => [C2 (fs 0 0) (fs 0 1), C2 (fs 1 0) (fs 1 1)]) (fun _ => rfl) fun fs h _ => by
    obtain ⟨h1, h2⟩ := two_ok h.1
    obtain ⟨h3, h4⟩ : (0 ≤ fs 1 0 ∧ fs 1 0 ≤ 18446744073709551615) ∧ (0 ≤ fs 1 1 ∧ fs 1 1 ≤ 18446744073709551615) := two_ok h.2.1
    refine ⟨_, run_CCompare (fs 0 0) (fs 0 1) (fs 1 0) (fs 1 1), fun he => sat_sym ?_ rfl, fun he => ⟨fun hn => sat_sym ?_ rfl, fun hn => ⟨fun hm => sat_sym ?_ rfl, fun hm => sat_sym ?_ rfl⟩⟩⟩
    all_goals show AV.sym _ = AV.one (.si .i64 (cmpV (valC (fs 0 0) (fs 0 1)) (valC (fs 1 0) (fs 1 1))))
    · simp only [eqL, Bool.and_eq_true, beq_iff_eq] at he
      rw [he.1, he.2.1, cmpV_eq rfl]; rfl
    · rcases cmpV_cases (fs 0 0) (fs 1 0) with ⟨q, e⟩ | ⟨q, e⟩ | ⟨q, e⟩
      · rw [e, cmpV_lt (by unfold valC; omega)]; rfl
      · rw [e, cmpV_gt (by unfold valC; omega)]; rfl
      · rw [e] at hn; cases hn
    · have q0 : fs 0 0 = fs 1 0 := by
        rcases cmpV_cases (fs 0 0) (fs 1 0) with ⟨q, e⟩ | ⟨q, e⟩ | ⟨q, e⟩
        · rw [e] at hn; cases hn
        · rw [e] at hn; cases hn
        · exact q
      rcases cmpV_cases (fs 0 1) (fs 1 1) with ⟨q, e⟩ | ⟨q, e⟩ | ⟨q, e⟩
      · rw [e, cmpV_lt (by unfold valC; omega)]; rfl
      · rw [e, cmpV_gt (by unfold valC; omega)]; rfl
      · rw [e] at hm; cases hm
    · have q0 : fs 0 0 = fs 1 0 := by
        rcases cmpV_cases (fs 0 0) (fs 1 0) with ⟨q, e⟩ | ⟨q, e⟩ | ⟨q, e⟩
        · rw [e] at hn; cases hn
        · rw [e] at hn; cases hn
        · exact q
      have q1 : fs 0 1 = fs 1 1 := by
        rcases cmpV_cases (fs 0 1) (fs 1 1) with ⟨q, e⟩ | ⟨q, e⟩ | ⟨q, e⟩
        · rw [e] at hm; cases hm
        · rw [e] at hm; cases hm
        · exact q
      rw [q0, q1, cmpV_eq rfl]; rfl)

/-! ## CountOrder -/

theorem fn_CountOrder : FnOk Try.prog 4 Try.f4 := ⟨Try.func4, by kernel_rfl⟩
def sumC (h l n : Int) : Int := valC (okH (fit (valC h l + n)) (valC h l + n)) (okLo (fit (valC h l + n)) (valC h l + n))
theorem run_CountOrder (h l n : Int) : callA (cfgB [] [p_Add, p_CCompare, p_wakes04] []) false 1000 Try.f4 [C2 h l, .one (.si .u64 n)] (memG gdB) =
    .br (!(fit (valC h l + n))) (.done (.one (.lb true)) Mem.empty)
      (.br (cmpI .eql n 0) (.done (.one (.sb (cmpI .eql (cmpV (valC h l) (sumC h l n)) 0))) Mem.empty)
        (.br (cmpI .eql (cmpV (valC h l) (sumC h l n)) (-1)) (.done (.one (.sb (cmpI .eql (cmpV (sumC h l n) (valC h l)) 1))) Mem.empty) noO)) := by kernel_rfl
theorem law_CountOrder {W : World} {base : Nat} {args : Array Value} (hsz : Try.f4.params.toList.length = args.toList.length)
    (hval : ∀ (j : Nat) t v, Try.f4.params[j]? = some t → args[j]? = some v → Value.okWide Try.prog W .any base t v) :
    Calls Try.prog 4 args W fun e w' => e = .returned (.bool true) ∧ RowKit.Below W.heap.size W w' :=
  law_e (C := cfgB [] [p_Add, p_CCompare, p_wakes04] []) (cokB (by simp) (by simp [ps_Add, ps_CCompare, ps_wakes04]) (by simp)) rfl rfl fn_CountOrder (shs := [.l .u64 2, .w .u64]) (by kernel_rfl) 1000
    (fun fs => [C2 (fs 0 0) (fs 0 1), .one (.si .u64 (fs 1 0))]) (fun _ => rfl) (fun fs h => by
      have h3 : 0 ≤ fs 1 0 ∧ fs 1 0 ≤ 18446744073709551615 := one_ok h.2.1
      refine ⟨_, run_CountOrder (fs 0 0) (fs 0 1) (fs 1 0), fun _ => .inr rfl, fun hf => ?_⟩
      have hf : fit (valC (fs 0 0) (fs 0 1) + fs 1 0) = true := by simpa using hf
      have e : sumC (fs 0 0) (fs 0 1) (fs 1 0) = valC (fs 0 0) (fs 0 1) + fs 1 0 := val_two hf
      rw [e]
      refine ⟨fun hn => ?_, fun hn => ?_⟩
      · rw [eql_dec] at hn
        have hn := of_decide_eq_true hn
        rw [cmpV_eq (by omega)]; exact .inl rfl
      · rw [eql_dec] at hn
        have hn := of_decide_eq_false hn
        rw [cmpV_lt (by omega), cmpV_gt (by omega)]
        exact ⟨fun _ => .inl rfl, fun hc => by cases hc⟩) hsz hval (fun p hp => by cases hp)

end Go.Proofs.Ytljchidgchjoeaa
