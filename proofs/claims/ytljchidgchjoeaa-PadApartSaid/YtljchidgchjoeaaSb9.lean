/- Layer 04: what is left over; the law CountMods. -/
import Derived.Test.YtljchidgchjoeaaSb8
namespace Go.Proofs.Ytljchidgchjoeaa
open Go Go.Ax

def modV (V m : Int) : Int := if 1 ≤ m ∧ m ≤ 2147483647 then V % m else 0
def T_Mod : List (List Int) → GR := fun l => .p (.w .i64 (modV (valC (at2 l 0 0) (at2 l 0 1)) (one l 1)))
def p_CMod := (22, gsum [.l .u64 2, .w .i64] (fun _ => []) T_Mod)
theorem fn_CMod : FnOk Try.prog 22 Try.f22 := ⟨Try.func22, by kernel_rfl⟩
theorem run_CMod (h l m : Int) : callA (cfgB [] [p_Div64] []) false 1000 Try.f22 [C2 h l, .one (.si .i64 m)] (memG gdB) =
    .br (decide (m < 1)) (li64 0) (.br (decide (m > 2147483647)) (li64 0) (.need (IntKind.u64.wrap m ≠ 0) (.need (0 < IntKind.u64.wrap m) (.need (IntKind.u64.wrap m < 2147483648) (.need (binI .rem .u64 h (IntKind.u64.wrap m) < IntKind.u64.wrap m)
      (.done (.one (.si .i64 (IntKind.i64.wrap ((binI .rem .u64 h (IntKind.u64.wrap m) * 18446744073709551616 + l) % IntKind.u64.wrap m)))) Mem.empty)))))) := by kernel_rfl
theorem modV_in {V m : Int} (h1 : 1 ≤ m) (h2 : m ≤ 2147483647) : modV V m = V % m := if_pos ⟨h1, h2⟩
theorem modV_out {V m : Int} (h : m < 1 ∨ m > 2147483647) : modV V m = 0 := if_neg (by omega)
theorem ps_CMod : PSOk (cfgB [] [] []) p_CMod.1 p_CMod.2 :=
  upB (psok_e (C := cfgB [] [p_Div64] []) (cokB (by simp) (by simp [ps_Div64]) (by simp)) rfl rfl fn_CMod rfl 1000 (fun fs => [C2 (fs 0 0) (fs 0 1), .one (.si .i64 (fs 1 0))]) (fun _ => rfl) fun fs h _ => by
    obtain ⟨h1, h2⟩ := two_ok h.1
    refine ⟨_, run_CMod (fs 0 0) (fs 0 1) (fs 1 0), ?_⟩
    show Out.sat (fun v _ => v.flat = true ∧ ∀ val, v.R (fun _ => 0) 0 val → (GR.mk false (.p (.w .i64 (modV (valC (fs 0 0) (fs 0 1)) (fs 1 0))))).R (fun _ => 0) 0 val) _
    refine ⟨fun hc => sat_sym ?_ rfl, fun hc => ⟨fun hd => sat_sym ?_ rfl, fun hd => ?_⟩⟩
    · rw [modV_out (.inl (of_decide_eq_true hc))]; rfl
    · rw [modV_out (.inr (of_decide_eq_true hd))]; rfl
    · have hc := of_decide_eq_false hc
      have hd := of_decide_eq_false hd
      have hm : IntKind.u64.wrap (fs 1 0) = fs 1 0 := wrap_ok (oku (by omega) (by omega))
      have hr : binI .rem .u64 (fs 0 0) (fs 1 0) = fs 0 0 % fs 1 0 := Int.tmod_eq_emod_of_nonneg (by omega)
      rw [hm, hr, modV_in (by omega) (by omega)]
      have hlt := Int.emod_lt_of_pos (fs 0 0) (show 0 < fs 1 0 by omega)
      refine ⟨by omega, by omega, by omega, hlt, sat_same ?_⟩
      have e : (fs 0 0 % fs 1 0 * 18446744073709551616 + fs 0 1) % fs 1 0 = valC (fs 0 0) (fs 0 1) % fs 1 0 := by
        unfold valC
        rw [Int.add_emod, Int.mul_emod, Int.emod_emod, ← Int.mul_emod, ← Int.add_emod]
      have a1 := Int.emod_nonneg (valC (fs 0 0) (fs 0 1)) (show fs 1 0 ≠ 0 by omega)
      have a2 := Int.emod_lt_of_pos (valC (fs 0 0) (fs 0 1)) (show 0 < fs 1 0 by omega)
      rw [e]
      show AV.one (.si .i64 (IntKind.i64.wrap _)) = AV.one (.si .i64 _)
      rw [wrap_ok (ok64 (by omega) (by omega))])

/-! ## The document's -/

def hornM (a : Nat → Int) (m : Int) : Nat → Int
  | 0 => 0
  | k + 1 => binI .rem .i64 (binI .add .i64 (binI .mul .i64 2 (hornM a m k)) (a (127 - k))) m
def needN (p : Prop) : Nat → Out → Out
  | 0, o => o
  | n + 1, o => .need p (needN p n o)
theorem needN_sat {p : Prop} {K : AV → Mem → Prop} {o : Out} (hp : p) (h : o.sat K) : ∀ n, (needN p n o).sat K
  | 0 => h
  | n + 1 => ⟨hp, needN_sat hp h n⟩
theorem fn_RMod : FnOk Try.prog 28 Try.f28 := ⟨Try.func28, by kernel_rfl⟩
theorem run_RMod (T : Int → Int → Nat → Int) (h l m : Int) : callA (cfgB [] [pBitsV T] []) false 1000 Try.f28 [C2 h l, .one (.si .i64 m)] (memG gdB) =
    .br (decide (m < 1)) (li64 0) (.br (decide (m > 2147483647)) (li64 0) (needN (m ≠ 0) 128 (.done (.one (.si .i64 (hornM (T h l) m 128))) Mem.empty))) := by kernel_rfl
theorem hornM_eq {V m : Nat} (h1 : 1 ≤ m) (h2 : m ≤ 2147483647) : ∀ k, k ≤ 128 → V < 2 ^ 128 → hornM (bN V) m k = ((V / 2 ^ (128 - k) % m : Nat) : Int)
  | 0, _, hV => by rw [Nat.sub_zero, Nat.div_eq_of_lt hV]; simp [hornM]
  | k + 1, hk, hV => by
    simp only [hornM]
    rw [hornM_eq h1 h2 k (by omega) hV]
    have e1 : 128 - k = (127 - k) + 1 := by omega
    have e2 : 128 - (k + 1) = 127 - k := by omega
    rw [e1, e2]
    generalize hq : V / 2 ^ (127 - k) = q
    have e3 : V / 2 ^ (127 - k + 1) = q / 2 := by rw [Nat.pow_succ, ← Nat.div_div_eq_div_mul, hq]
    have e4 : bN V (127 - k) = ((q % 2 : Nat) : Int) := by unfold bN; rw [hq]
    rw [e3, e4]
    have hlt : q / 2 % m < m := Nat.mod_lt _ (by omega)
    have w1 : binI .mul .i64 2 ((q / 2 % m : Nat) : Int) = ((2 * (q / 2 % m) : Nat) : Int) := by
      show IntKind.i64.wrap (2 * ((q / 2 % m : Nat) : Int)) = _
      rw [show (2 * ((q / 2 % m : Nat) : Int)) = ((2 * (q / 2 % m) : Nat) : Int) by push_cast; rfl]
      exact wrap_ok (ok64 (by omega) (by omega))
    have w2 : binI .add .i64 ((2 * (q / 2 % m) : Nat) : Int) ((q % 2 : Nat) : Int) = ((2 * (q / 2 % m) + q % 2 : Nat) : Int) := by
      show IntKind.i64.wrap (_ + _) = _
      rw [← Int.natCast_add]
      exact wrap_ok (ok64 (by omega) (by omega))
    rw [w1, w2]
    show ((2 * (q / 2 % m) + q % 2 : Nat) : Int).tmod (m : Int) = _
    rw [Int.tmod_eq_emod_of_nonneg (by omega), ← Int.natCast_emod]
    congr 1
    conv => rhs; rw [← Nat.div_add_mod q 2]
    rw [Nat.add_mod, Nat.mul_mod, Nat.mod_mod, ← Nat.mul_mod, ← Nat.add_mod]
def p_RMod := (28, gsum [.l .u64 2, .w .i64] (fun _ => []) T_Mod)
theorem ps_RMod : PSOk (cfgB [] [] []) p_RMod.1 p_RMod.2 :=
  upB (psok_e (C := cfgB [] [pBitsV bitsT] []) (cokB (by simp) (by simp [ps_bits]) (by simp)) rfl rfl fn_RMod rfl 1000 (fun fs => [C2 (fs 0 0) (fs 0 1), .one (.si .i64 (fs 1 0))]) (fun _ => rfl) fun fs h _ => by
    obtain ⟨h1, h2⟩ := two_ok h.1
    refine ⟨_, run_RMod bitsT (fs 0 0) (fs 0 1) (fs 1 0), ?_⟩
    show Out.sat (fun v _ => v.flat = true ∧ ∀ val, v.R (fun _ => 0) 0 val → (GR.mk false (.p (.w .i64 (modV (valC (fs 0 0) (fs 0 1)) (fs 1 0))))).R (fun _ => 0) 0 val) _
    refine ⟨fun hc => sat_sym ?_ rfl, fun hc => ⟨fun hd => sat_sym ?_ rfl, fun hd => ?_⟩⟩
    · rw [modV_out (.inl (of_decide_eq_true hc))]; rfl
    · rw [modV_out (.inr (of_decide_eq_true hd))]; rfl
    · have hc := of_decide_eq_false hc
      have hd := of_decide_eq_false hd
      rw [modV_in (by omega) (by omega)]
      refine needN_sat (by omega) ?_ 128
      refine sat_same ?_
      obtain ⟨m, hm⟩ := Int.eq_ofNat_of_zero_le (show 0 ≤ fs 1 0 by omega)
      show AV.one (.si .i64 (hornM (bN (natC (fs 0 0) (fs 0 1))) (fs 1 0) 128)) = AV.one (.si .i64 (valC (fs 0 0) (fs 0 1) % fs 1 0))
      rw [hm, hornM_eq (by omega) (by omega) 128 (by decide) (natC_lt h1 h2), ← natC_val h1 h2]
      rw [show 128 - 128 = 0 from rfl, Nat.pow_zero, Nat.div_one, Int.natCast_emod])

/-! ## CountMods -/

theorem fn_CountMods : FnOk Try.prog 6 Try.f6 := ⟨Try.func6, by kernel_rfl⟩
def kM (m : Int) : Int := binI .add .i64 (IntKind.i64.wrap m) 1
theorem run_CountMods (h l n m : Int) : callA (cfgB [] [p_wakes04, p_Add, p_CMod] []) false 1000 Try.f6 [C2 h l, .one (.si .u32 n), .one (.si .u16 m)] (memG gdB) =
    .br (!(fit (valC h l + IntKind.u64.wrap n))) (.done (.one (.lb true)) Mem.empty) (.need (kM m ≠ 0) (.need (kM m ≠ 0) (.done (.one (.sb (cmpI .eql (modV (sumC h l (IntKind.u64.wrap n)) (kM m)) (binI .rem .i64 (binI .add .i64 (modV (valC h l) (kM m)) (binI .rem .i64 (IntKind.i64.wrap n) (kM m))) (kM m))))) Mem.empty))) := by kernel_rfl
theorem law_CountMods {W : World} {base : Nat} {args : Array Value} (hsz : Try.f6.params.toList.length = args.toList.length)
    (hval : ∀ (j : Nat) t v, Try.f6.params[j]? = some t → args[j]? = some v → Value.okWide Try.prog W .any base t v) :
    Calls Try.prog 6 args W fun e w' => e = .returned (.bool true) ∧ RowKit.Below W.heap.size W w' :=
  law_e (C := cfgB [] [p_wakes04, p_Add, p_CMod] []) (cokB (by simp) (by simp [ps_wakes04, ps_Add, ps_CMod]) (by simp)) rfl rfl fn_CountMods (shs := [.l .u64 2, .w .u32, .w .u16]) (by kernel_rfl) 1000
    (fun fs => [C2 (fs 0 0) (fs 0 1), .one (.si .u32 (fs 1 0)), .one (.si .u16 (fs 2 0))]) (fun _ => rfl) (fun fs h => by
      have h1 : okI .u32 (fs 1 0) := h.2.1.2 _ (List.mem_map.2 ⟨0, by simp [Sh.len], rfl⟩)
      have h2 : okI .u16 (fs 2 0) := h.2.2.1.2 _ (List.mem_map.2 ⟨0, by simp [Sh.len], rfl⟩)
      have h1' : 0 ≤ fs 1 0 ∧ fs 1 0 ≤ 4294967295 := by unfold okI at h1; simp [IntKind.min, IntKind.max, IntKind.bits, IntKind.signed] at h1; omega
      have h2' : 0 ≤ fs 2 0 ∧ fs 2 0 ≤ 65535 := by unfold okI at h2; simp [IntKind.min, IntKind.max, IntKind.bits, IntKind.signed] at h2; omega
      have ek : kM (fs 2 0) = fs 2 0 + 1 := by
        unfold kM
        rw [wrap_ok (ok64 (by omega) (by omega))]
        show IntKind.i64.wrap _ = _
        exact wrap_ok (ok64 (by omega) (by omega))
      have en : IntKind.u64.wrap (fs 1 0) = fs 1 0 := wrap_ok (oku (by omega) (by omega))
      have en2 : IntKind.i64.wrap (fs 1 0) = fs 1 0 := wrap_ok (ok64 (by omega) (by omega))
      refine ⟨_, run_CountMods (fs 0 0) (fs 0 1) (fs 1 0) (fs 2 0), fun _ => .inr rfl, fun hf => ⟨by omega, by omega, .inl ?_⟩⟩
      have hf : fit (valC (fs 0 0) (fs 0 1) + fs 1 0) = true := by rw [en] at hf; simpa using hf
      have e : sumC (fs 0 0) (fs 0 1) (fs 1 0) = valC (fs 0 0) (fs 0 1) + fs 1 0 := val_two hf
      rw [en, en2, ek, e, modV_in (by omega) (by omega), modV_in (by omega) (by omega)]
      generalize hk : fs 2 0 + 1 = k
      have r1 : binI .rem .i64 (fs 1 0) k = fs 1 0 % k := Int.tmod_eq_emod_of_nonneg (by omega)
      have a1 := Int.emod_nonneg (valC (fs 0 0) (fs 0 1)) (show k ≠ 0 by omega)
      have a2 := Int.emod_lt_of_pos (valC (fs 0 0) (fs 0 1)) (show 0 < k by omega)
      have b1 := Int.emod_nonneg (fs 1 0) (show k ≠ 0 by omega)
      have b2 := Int.emod_lt_of_pos (fs 1 0) (show 0 < k by omega)
      have s1 : binI .add .i64 (valC (fs 0 0) (fs 0 1) % k) (fs 1 0 % k) = valC (fs 0 0) (fs 0 1) % k + fs 1 0 % k := wrap_ok (ok64 (by omega) (by omega))
      have r2 : binI .rem .i64 (valC (fs 0 0) (fs 0 1) % k + fs 1 0 % k) k = (valC (fs 0 0) (fs 0 1) % k + fs 1 0 % k) % k := Int.tmod_eq_emod_of_nonneg (by omega)
      rw [r1, s1, r2, ← Int.add_emod, eql_dec, decide_eq_true rfl]) hsz hval (fun p hp => by cases hp)

end Go.Proofs.Ytljchidgchjoeaa
