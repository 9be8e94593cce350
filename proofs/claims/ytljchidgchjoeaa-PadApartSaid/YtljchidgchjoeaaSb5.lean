/- Layer 04: bits of a count, whether it fits; the law CountAdds. -/
import Derived.Test.YtljchidgchjoeaaSb4
namespace Go.Proofs.Ytljchidgchjoeaa
open Go Go.Ax

def T_CBits : List (List Int) → GR := fun l => T_ok (fit (8 * valC (at2 l 0 0) (at2 l 0 1))) (8 * valC (at2 l 0 0) (at2 l 0 1))
def p_CBits := (29, gsum [.l .u64 2] (fun _ => []) T_CBits)
theorem fn_CBits : FnOk Try.prog 29 Try.f29 := ⟨Try.func29, by kernel_rfl⟩
theorem run_CBits (h l : Int) : callA (cfgB [] [p_told] []) false 100 Try.f29 [C2 h l] (memG gdB) =
    .done (toldA (binI .or .u64 (binI .shl .u64 h 3) (binI .shr .u64 l 61)) (binI .shl .u64 l 3) (binI .shr .u64 h 61)) Mem.empty := by kernel_rfl
theorem or8 {q y : Int} (h1 : 0 ≤ q) (h2 : 8 * q ≤ 18446744073709551615) (h3 : 0 ≤ y ∧ y < 8) : binI .or .u64 (8 * q) y = 8 * q + y := by
  obtain ⟨a, rfl⟩ := Int.eq_ofNat_of_zero_le h1
  obtain ⟨b, rfl⟩ := Int.eq_ofNat_of_zero_le h3.1
  show IntKind.u64.wrap ((BitVec.ofInt 64 (8 * (a : Int)) ||| BitVec.ofInt 64 (b : Int)).toNat : Int) = _
  rw [show (8 * (a : Int)) = ((2 ^ 3 * a : Nat) : Int) by omega, BitVec.ofInt_natCast, BitVec.ofInt_natCast, BitVec.toNat_or, BitVec.toNat_ofNat, BitVec.toNat_ofNat, Nat.mod_eq_of_lt (by omega), Nat.mod_eq_of_lt (by omega),
    ← Nat.two_pow_add_eq_or_of_lt (by omega : b < 2 ^ 3) a]
  rw [show ((2 ^ 3 * a + b : Nat) : Int) = ((2 ^ 3 * a : Nat) : Int) + (b : Int) by omega]
  exact wrap_ok (oku (by omega) (by omega))
theorem shl3 {x : Int} : binI .shl .u64 x 3 = 8 * (x % 2305843009213693952) := by
  show IntKind.u64.wrap (x * 2 ^ (min (3 : Int).toNat IntKind.u64.bits)) = _
  have : (2 : Int) ^ (min (3 : Int).toNat IntKind.u64.bits) = 8 := by decide
  rw [this]
  simp only [IntKind.wrap, IntKind.bits, IntKind.signed, Bool.false_and, Bool.false_eq_true, if_false]
  omega
theorem shr61 {x : Int} : binI .shr .u64 x 61 = x / 2305843009213693952 := by
  show x.fdiv (2 ^ (min (61 : Int).toNat IntKind.u64.bits)) = _
  have : (2 : Int) ^ (min (61 : Int).toNat IntKind.u64.bits) = 2305843009213693952 := by decide
  rw [this, Int.fdiv_eq_ediv_of_nonneg _ (by omega)]
theorem ps_CBits : PSOk (cfgB [] [] []) p_CBits.1 p_CBits.2 :=
  upB (psok_e (C := cfgB [] [p_told] []) (cokB (by simp) (by simp [ps_told]) (by simp)) rfl rfl fn_CBits rfl 100 (fun fs => [C2 (fs 0 0) (fs 0 1)]) (fun _ => rfl) fun fs h _ => by
    obtain ⟨h1, h2⟩ := two_ok h.1
    refine ⟨_, run_CBits (fs 0 0) (fs 0 1), sat_same ?_⟩
    show _ = (T_ok (fit (8 * valC (fs 0 0) (fs 0 1))) (8 * valC (fs 0 0) (fs 0 1))).mk false
    rw [shl3, shr61, shl3, shr61, or8 (by omega) (by omega) (by omega)]
    exact toldA_ok (by unfold valC; omega) (by omega) (by omega) (by omega))

/-- Does it fit, as bits, into so many? -/
def fits (V s : Int) : Bool := fit (8 * V) && (decide (s = 128) || decide (s = 64) && decide (8 * V < 18446744073709551616))
def T_Fits : List (List Int) → GR := fun l => .p (.b (fits (valC (at2 l 0 0) (at2 l 0 1)) (one l 1)))
def p_Fits := (32, gsum [.l .u64 2, .w .i64] (fun _ => []) T_Fits)
theorem fn_Fits : FnOk Try.prog 32 Try.f32 := ⟨Try.func32, by kernel_rfl⟩

def okH (ok : Bool) (M : Int) : Int := iteI ok (M / 18446744073709551616) 0
def okLo (ok : Bool) (M : Int) : Int := iteI ok (M % 18446744073709551616) 0
theorem run_Fits (h l s : Int) : callA (cfgB [] [p_CBits] []) false 1000 Try.f32 [C2 h l, .one (.si .i64 s)] (memG gdB) =
    .br (fit (8 * valC h l)) (.br (cmpI .eql s 128) (.done (.one (.lb true)) Mem.empty) (.br (cmpI .eql s 64) (.done (.one (.sb (cmpI .eql (okH (fit (8 * valC h l)) (8 * valC h l)) 0))) Mem.empty) (.done (.one (.lb false)) Mem.empty))) (.done (.one (.lb false)) Mem.empty) := by kernel_rfl
theorem fit_iff {M : Int} : fit M = true ↔ 0 ≤ M ∧ M < 340282366920938463463374607431768211456 := by unfold fit; simp
theorem eql_dec (a b : Int) : cmpI .eql a b = decide (a = b) := by
  unfold cmpI
  by_cases h : a = b
  · subst h; simp
  · simp [h]
theorem hi_zero {M : Int} (h : fit M = true) : cmpI .eql (okH (fit M) M) 0 = decide (M < 18446744073709551616) := by
  have h' := fit_iff.1 h
  rw [eql_dec, h]
  show decide (M / 18446744073709551616 = 0) = _
  by_cases hc : M < 18446744073709551616
  · rw [decide_eq_true hc, decide_eq_true (by omega)]
  · rw [decide_eq_false hc, decide_eq_false (by omega)]
theorem ps_Fits : PSOk (cfgB [] [] []) p_Fits.1 p_Fits.2 :=
  upB (psok_e (C := cfgB [] [p_CBits] []) (cokB (by simp) (by simp [ps_CBits]) (by simp)) rfl rfl fn_Fits rfl 1000 (fun fs => [C2 (fs 0 0) (fs 0 1), .one (.si .i64 (fs 1 0))]) (fun _ => rfl) fun fs h _ => by
    refine ⟨_, run_Fits (fs 0 0) (fs 0 1) (fs 1 0), fun hf => ⟨fun hs => sat_sym ?_ rfl, fun hs => ⟨fun h6 => sat_sym ?_ rfl, fun h6 => sat_sym ?_ rfl⟩⟩, fun hf => sat_sym ?_ rfl⟩
    all_goals show AV.sym _ = AV.one (.sb (fits (valC (fs 0 0) (fs 0 1)) (fs 1 0)))
    all_goals unfold fits
    · rw [hf]; rw [eql_dec] at hs; rw [hs]; rfl
    · rw [hf]; rw [eql_dec] at hs h6; rw [hs, h6, ← hf, hi_zero hf, hf]; rfl
    · rw [hf]; rw [eql_dec] at hs h6; rw [hs, h6]; rfl
    · rw [hf]; rfl)

/-! ## The example, and the law -/

/-- A run without unknowns: does it answer yes? -/
def Out.yes : Out → Bool
  | .bad _ => false
  | .need _ _ => false
  | .br c t f => match c with | true => Out.yes t | false => Out.yes f
  | .done v _ => match v with | .one (.sb x) => x | .one (.lb x) => x | _ => false
theorem yes_sat : ∀ {o : Out}, Out.yes o = true → o.sat fun v _ => v.flat = true ∧ ∀ val, v.R (fun _ => 0) 0 val → (GR.mk false (.p (.b true))).R (fun _ => 0) 0 val
  | .bad _, h => by cases h
  | .need _ _, h => by cases h
  | .br c t f, h => by
    refine ⟨fun hc => yes_sat (by subst hc; exact h), fun hc => yes_sat (by subst hc; exact h)⟩
  | .done v m, h => by
    match v, h with
    | .one (.sb x), h => have h : x = true := h; subst h; exact ⟨rfl, fun _ hv => hv⟩
    | .one (.lb x), h => have h : x = true := h; subst h; exact ⟨rfl, fun _ hv => hv⟩
theorem fn_wakes04 : FnOk Try.prog 12 Try.f12 := ⟨Try.func12, by kernel_rfl⟩
def p_wakes04 := (12, gsum [] (fun _ => []) fun _ => .p (.b true))
theorem run_wakes04 : Out.yes (callA (cfgB [] [p_Add, p_Fits] []) false 1000 Try.f12 [] (memG gdB)) = true := by kernel_rfl
theorem ps_wakes04 : PSOk (cfgB [] [] []) p_wakes04.1 p_wakes04.2 :=
  upB (psok_e (C := cfgB [] [p_Add, p_Fits] []) (cokB (by simp) (by simp [ps_Add, ps_Fits]) (by simp)) rfl rfl fn_wakes04 rfl 1000 (fun _ => []) (fun _ => rfl) fun fs _ _ => ⟨_, rfl, yes_sat run_wakes04⟩)

def eqL : List Int → List Int → Bool
  | a :: l, b :: l' => (a == b) && eqL l l'
  | _, _ => true
theorem eqL_self : ∀ l, eqL l l = true
  | [] => rfl
  | a :: l => by simp [eqL, eqL_self l]
def two (M : Int) : List Int := [okH (fit M) M, okLo (fit M) M]
theorem fn_CountAdds : FnOk Try.prog 3 Try.f3 := ⟨Try.func3, by kernel_rfl⟩
def noO : Out := .done (.one (.lb false)) Mem.empty
theorem run_CountAdds (h l n : Int) : callA (cfgB [] [p_Add, p_Sub, p_RAdd, p_RSub, p_wakes04] []) false 1000 Try.f3 [C2 h l, .one (.si .u64 n)] (memG gdB) =
    .br (!(eqL (two (valC h l + n)) (two (valC h l + n)))) noO (.br (!(fit (valC h l + n) == fit (valC h l + n))) noO
      (.br (!(eqL (two (valC h l - n)) (two (valC h l - n)))) noO (.br (!(fit (valC h l - n) == fit (valC h l - n))) noO
        (.br (!(fit (valC h l + n))) (.done (.one (.lb true)) Mem.empty)
          (.br (fit (valC (okH (fit (valC h l + n)) (valC h l + n)) (okLo (fit (valC h l + n)) (valC h l + n)) - n))
            (.done (.one (.sb (eqL (two (valC (okH (fit (valC h l + n)) (valC h l + n)) (okLo (fit (valC h l + n)) (valC h l + n)) - n)) [h, l]))) Mem.empty) noO))))) := by kernel_rfl
theorem val_two {M : Int} (h : fit M = true) : valC (okH (fit M) M) (okLo (fit M) M) = M := by
  rw [h]
  show M / 18446744073709551616 * 18446744073709551616 + M % 18446744073709551616 = M
  omega
theorem two_val {h l : Int} (h1 : 0 ≤ h ∧ h ≤ 18446744073709551615) (h2 : 0 ≤ l ∧ l ≤ 18446744073709551615) : fit (valC h l) = true ∧ two (valC h l) = [h, l] := by
  have hf : fit (valC h l) = true := by rw [fit_iff]; unfold valC; omega
  refine ⟨hf, ?_⟩
  unfold two
  rw [hf]
  show [valC h l / 18446744073709551616, valC h l % 18446744073709551616] = _
  rw [show valC h l / 18446744073709551616 = h by unfold valC; omega, show valC h l % 18446744073709551616 = l by unfold valC; omega]
theorem law_CountAdds {W : World} {base : Nat} {args : Array Value} (hsz : Try.f3.params.toList.length = args.toList.length)
    (hval : ∀ (j : Nat) t v, Try.f3.params[j]? = some t → args[j]? = some v → Value.okWide Try.prog W .any base t v) :
    Calls Try.prog 3 args W fun e w' => e = .returned (.bool true) ∧ RowKit.Below W.heap.size W w' :=
  law_e (C := cfgB [] [p_Add, p_Sub, p_RAdd, p_RSub, p_wakes04] []) (cokB (by simp) (by simp [ps_Add, ps_Sub, ps_RAdd, ps_RSub, ps_wakes04]) (by simp)) rfl rfl fn_CountAdds (shs := [.l .u64 2, .w .u64]) (by kernel_rfl) 1000
    (fun fs => [C2 (fs 0 0) (fs 0 1), .one (.si .u64 (fs 1 0))]) (fun _ => rfl) (fun fs h => by
      obtain ⟨h1, h2⟩ := two_ok h.1
      refine ⟨_, run_CountAdds (fs 0 0) (fs 0 1) (fs 1 0), ?_⟩
      have no : ∀ {c : Bool} {o : Out}, c = false → o.sat (fun v _ => v = .one (.sb true) ∨ v = .one (.lb true)) → (Out.br c noO o).sat (fun v _ => v = .one (.sb true) ∨ v = .one (.lb true)) := fun hc ho => ⟨(fun h => by rw [hc] at h; cases h), fun _ => ho⟩
      refine no (by rw [eqL_self]; rfl) (no (by simp) (no (by rw [eqL_self]; rfl) (no (by simp) ⟨fun _ => .inr rfl, fun hf => ?_⟩)))
      have hf : fit (valC (fs 0 0) (fs 0 1) + fs 1 0) = true := by simpa using hf
      have e : valC (okH (fit (valC (fs 0 0) (fs 0 1) + fs 1 0)) (valC (fs 0 0) (fs 0 1) + fs 1 0)) (okLo (fit (valC (fs 0 0) (fs 0 1) + fs 1 0)) (valC (fs 0 0) (fs 0 1) + fs 1 0)) - fs 1 0 = valC (fs 0 0) (fs 0 1) := by
        rw [val_two hf]; omega
      obtain ⟨q1, q2⟩ := two_val h1 h2
      rw [e]
      exact ⟨fun _ => .inl (by rw [q2, eqL_self]), fun hc => by rw [q1] at hc; cases hc⟩) hsz hval (fun p hp => by cases hp)

end Go.Proofs.Ytljchidgchjoeaa
