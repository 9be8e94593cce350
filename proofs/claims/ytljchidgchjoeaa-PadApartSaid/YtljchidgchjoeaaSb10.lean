/- Layer 04: the document's bits, comparison and fit; the law CountBits. -/
import Derived.Test.YtljchidgchjoeaaSb9
namespace Go.Proofs.Ytljchidgchjoeaa
open Go Go.Ax

/-! ## Bits -/

theorem fn_RBits : FnOk Try.prog 30 Try.f30 := ⟨Try.func30, by kernel_rfl⟩
def shB (a : Nat → Int) (i : Nat) : Int := match i with | 0 => 0 | 1 => 0 | 2 => 0 | i + 3 => a i
theorem run_RBits (T : Int → Int → Nat → Int) (H L : List Int → Int) (K : List Int → Bool) (h l : Int) : callA (cfgB [] [pBitsV T, pOfV H L K] []) false 1000 Try.f30 [C2 h l] (memG gdB) =
    .done (ofA H L K (tab 136 (shB (T h l)))) Mem.empty := by kernel_rfl
theorem bN_8 (V i : Nat) : shB (bN V) i = bN (8 * V) i := by
  have h8 : ∀ j, 8 * V / 2 ^ (j + 3) = V / 2 ^ j := fun j => by
    rw [show j + 3 = 3 + j by omega, Nat.pow_add, ← Nat.div_div_eq_div_mul, show 8 * V / 2 ^ 3 = V by omega]
  match i with
  | 0 => show (0 : Int) = _; unfold bN; omega
  | 1 => show (0 : Int) = _; unfold bN; omega
  | 2 => show (0 : Int) = _; unfold bN; omega
  | i + 3 => show bN V i = _; unfold bN; rw [h8]
def p_RBits := (30, gsum [.l .u64 2] (fun _ => []) T_CBits)
theorem ps_RBits : PSOk (cfgB [] [] []) p_RBits.1 p_RBits.2 :=
  upB (psok_e (C := cfgB [] [pBitsV bitsT, pOfV Hn Ln Kn] []) (cokB (by simp) (by simp [ps_bits, ps_ofV]) (by simp)) rfl rfl fn_RBits rfl 1000 (fun fs => [C2 (fs 0 0) (fs 0 1)]) (fun _ => rfl) fun fs h _ => by
    obtain ⟨h1, h2⟩ := two_ok h.1
    have hn := natC_lt h1 h2
    have e128 : (2 : Nat) ^ 128 = 340282366920938463463374607431768211456 := by decide
    have e136 : (2 : Nat) ^ 136 = 87112285931760246646623899502532662132736 := by decide
    refine ⟨_, run_RBits bitsT Hn Ln Kn (fs 0 0) (fs 0 1), sat_same ?_⟩
    show ofA Hn Ln Kn (tab 136 (shB (bN (natC (fs 0 0) (fs 0 1))))) = (T_ok (fit (8 * valC (fs 0 0) (fs 0 1))) (8 * valC (fs 0 0) (fs 0 1))).mk false
    rw [show tab 136 (shB (bN (natC (fs 0 0) (fs 0 1)))) = tab 136 (bN (8 * natC (fs 0 0) (fs 0 1))) from tab_congr fun i _ => bN_8 _ i, ofA_bits (by omega)]
    have e : ((8 * natC (fs 0 0) (fs 0 1) : Nat) : Int) = 8 * valC (fs 0 0) (fs 0 1) := by rw [← natC_val h1 h2]; omega
    rw [e])

/-! ## Comparison -/

def cmpTree (a b : Nat → Int) : Nat → Out
  | 0 => li64 0
  | i + 1 => .br (cmpI .lss (a i) (b i)) (li64 (-1)) (.br (cmpI .gtr (a i) (b i)) (li64 1) (cmpTree a b i))
theorem fn_RCompare : FnOk Try.prog 31 Try.f31 := ⟨Try.func31, by kernel_rfl⟩
theorem run_RCompare (T : Int → Int → Nat → Int) (h l k m : Int) : callA (cfgB [] [pBitsV T] []) false 2000 Try.f31 [C2 h l, C2 k m] (memG gdB) = cmpTree (T h l) (T k m) 128 := by kernel_rfl
theorem cmpTree_sat {V U : Nat} {K : AV → Mem → Prop} (hk : K (.one (.li .i64 (cmpV V U))) Mem.empty) : ∀ i, V / 2 ^ i = U / 2 ^ i → (cmpTree (bN V) (bN U) i).sat K
  | 0, h => by
    have : V = U := by simpa using h
    rw [cmpV_eq (by omega)] at hk
    exact hk
  | i + 1, h => by
    have e : ∀ x : Nat, x / 2 ^ (i + 1) = x / 2 ^ i / 2 := fun x => by rw [Nat.pow_succ, ← Nat.div_div_eq_div_mul]
    rw [e, e] at h
    have mono : ∀ x y : Nat, x / 2 ^ i < y / 2 ^ i → x < y := fun x y h => by
      rcases Nat.lt_or_ge x y with q | q
      · exact q
      · have := Nat.div_le_div_right (c := 2 ^ i) q; omega
    refine ⟨fun hc => ?_, fun hc => ⟨fun hd => ?_, fun hd => ?_⟩⟩
    · have hc : bN V i < bN U i := of_decide_eq_true hc
      unfold bN at hc
      have := mono V U (by omega)
      rw [cmpV_lt (by omega)] at hk
      exact hk
    · have hd : bN V i > bN U i := of_decide_eq_true hd
      unfold bN at hd
      have := mono U V (by omega)
      rw [cmpV_gt (by omega)] at hk
      exact hk
    · have hc : ¬ bN V i < bN U i := of_decide_eq_false hc
      have hd : ¬ bN V i > bN U i := of_decide_eq_false hd
      unfold bN at hc hd
      exact cmpTree_sat hk i (by omega)
def p_RCompare := (31, gsum [.l .u64 2, .l .u64 2] (fun _ => []) T_Cmp)
theorem ps_RCompare : PSOk (cfgB [] [] []) p_RCompare.1 p_RCompare.2 :=
  upB (psok_e (C := cfgB [] [pBitsV bitsT] []) (cokB (by simp) (by simp [ps_bits]) (by simp)) rfl rfl fn_RCompare rfl 2000 (fun fs => [C2 (fs 0 0) (fs 0 1), C2 (fs 1 0) (fs 1 1)]) (fun _ => rfl) fun fs h _ => by
    obtain ⟨h1, h2⟩ := two_ok h.1
    obtain ⟨h3, h4⟩ : (0 ≤ fs 1 0 ∧ fs 1 0 ≤ 18446744073709551615) ∧ (0 ≤ fs 1 1 ∧ fs 1 1 ≤ 18446744073709551615) := two_ok h.2.1
    refine ⟨_, run_RCompare bitsT (fs 0 0) (fs 0 1) (fs 1 0) (fs 1 1), cmpTree_sat (V := natC (fs 0 0) (fs 0 1)) (U := natC (fs 1 0) (fs 1 1)) (sat_sym ?_ rfl) 128 (by rw [Nat.div_eq_of_lt (natC_lt h1 h2), Nat.div_eq_of_lt (natC_lt h3 h4)])⟩
    show AV.one (.si .i64 _) = AV.one (.si .i64 (cmpV (valC (fs 0 0) (fs 0 1)) (valC (fs 1 0) (fs 1 1))))
    rw [natC_val h1 h2, natC_val h3 h4])

/-! ## Fit -/

theorem fn_RFits : FnOk Try.prog 27 Try.f27 := ⟨Try.func27, by kernel_rfl⟩
theorem fn_CountBits : FnOk Try.prog 10 Try.f10 := ⟨Try.func10, by kernel_rfl⟩
theorem run_RFits (h l s : Int) : callA (cfgB [] [p_RBits] []) false 1000 Try.f27 [C2 h l, .one (.si .i64 s)] (memG gdB) =
    .br (cmpI .eql s 64) (.br (fit (8 * valC h l)) (.done (.one (.sb (cmpI .eql (okH (fit (8 * valC h l)) (8 * valC h l)) 0))) Mem.empty) noO) (.br (cmpI .eql s 128) (.done (.one (.sb (fit (8 * valC h l)))) Mem.empty) noO) := by kernel_rfl
def p_RFits := (27, gsum [.l .u64 2, .w .i64] (fun _ => []) T_Fits)
theorem ps_RFits : PSOk (cfgB [] [] []) p_RFits.1 p_RFits.2 :=
  upB (psok_e (C := cfgB [] [p_RBits] []) (cokB (by simp) (by simp [ps_RBits]) (by simp)) rfl rfl fn_RFits rfl 1000 (fun fs => [C2 (fs 0 0) (fs 0 1), .one (.si .i64 (fs 1 0))]) (fun _ => rfl) fun fs h _ => by
    refine ⟨_, run_RFits (fs 0 0) (fs 0 1) (fs 1 0), fun h6 => ⟨fun hf => sat_sym ?_ rfl, fun hf => sat_sym ?_ rfl⟩, fun h6 => ⟨fun hs => sat_sym ?_ rfl, fun hs => sat_sym ?_ rfl⟩⟩
    all_goals show AV.sym _ = AV.one (.sb (fits (valC (fs 0 0) (fs 0 1)) (fs 1 0)))
    all_goals unfold fits
    all_goals rw [eql_dec] at h6
    · have h6' := of_decide_eq_true h6
      rw [hf, h6, ← hf, hi_zero hf, hf, h6']; rfl
    · rw [hf]; rfl
    · rw [eql_dec] at hs; rw [hs]; simp; rfl
    · rw [eql_dec] at hs; rw [hs, h6]; simp; rfl)

/-! ## CountBits -/

def andTree (x : Bool) : List Bool → Out
  | [] => .done (.one (.sb x)) Mem.empty
  | c :: cs => .br c (andTree x cs) noO
theorem andTree_sat {x : Bool} (hx : x = true) : ∀ {cs : List Bool}, (∀ c ∈ cs, c = true) → (andTree x cs).sat fun v _ => v = .one (.sb true) ∨ v = .one (.lb true)
  | [], _ => .inl (by rw [hx])
  | c :: cs, h => ⟨fun _ => andTree_sat hx fun c hc => h c (List.mem_cons_of_mem _ hc), fun hc => by rw [h c (List.mem_cons_self ..)] at hc; cases hc⟩
theorem run_CountBits (h l k j m : Int) : callA (cfgB [] [p_wakes04, p_CBits, p_RBits, p_CCompare, p_RCompare, p_CMod, p_RMod, p_Fits, p_RFits] []) false 1000 Try.f10 [C2 h l, C2 k j, .one (.si .i64 m)] (memG gdB) =
    andTree (fits (valC h l) 128 == fits (valC h l) 128) [eqL (two (8 * valC h l)) (two (8 * valC h l)), fit (8 * valC h l) == fit (8 * valC h l), cmpI .eql (cmpV (valC h l) (valC k j)) (cmpV (valC h l) (valC k j)), cmpI .eql (modV (valC h l) m) (modV (valC h l) m), fits (valC h l) m == fits (valC h l) m, fits (valC h l) 64 == fits (valC h l) 64] := by kernel_rfl
theorem law_CountBits {W : World} {base : Nat} {args : Array Value} (hsz : Try.f10.params.toList.length = args.toList.length)
    (hval : ∀ (j : Nat) t v, Try.f10.params[j]? = some t → args[j]? = some v → Value.okWide Try.prog W .any base t v) :
    Calls Try.prog 10 args W fun e w' => e = .returned (.bool true) ∧ RowKit.Below W.heap.size W w' :=
  law_e (C := cfgB [] [p_wakes04, p_CBits, p_RBits, p_CCompare, p_RCompare, p_CMod, p_RMod, p_Fits, p_RFits] []) (cokB (by simp) (by simp [ps_wakes04, ps_CBits, ps_RBits, ps_CCompare, ps_RCompare, ps_CMod, ps_RMod, ps_Fits, ps_RFits]) (by simp)) rfl rfl fn_CountBits (shs := [.l .u64 2, .l .u64 2, .w .i64]) (by kernel_rfl) 1000
    (fun fs => [C2 (fs 0 0) (fs 0 1), C2 (fs 1 0) (fs 1 1), .one (.si .i64 (fs 2 0))]) (fun _ => rfl) (fun fs h => ⟨_, run_CountBits (fs 0 0) (fs 0 1) (fs 1 0) (fs 1 1) (fs 2 0), andTree_sat (by simp) fun c hc => by
        simp only [eqL_self, eql_dec, decide_true, beq_self_eq_true, List.mem_cons, List.not_mem_nil, or_false, or_self] at hc
        exact hc⟩) hsz hval (fun p hp => by cases hp)

end Go.Proofs.Ytljchidgchjoeaa
