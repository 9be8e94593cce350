/- Layer 04: sums and differences of counts, the program's. -/
import Derived.Test.YtljchidgchjoeaaSb1
namespace Go.Proofs.Ytljchidgchjoeaa
open Go Go.Ax

theorem ps_told : PSOk (cfgB [] [] []) p_told.1 p_told.2 :=
  psok_e (C := cfgB [] [] []) (cokB (by simp) (by simp) (by simp)) rfl rfl fn_told rfl 100 (fun fs => [C2 (fs 0 0) (fs 0 1), .one (.si .u64 (fs 1 0))]) (fun _ => rfl) fun fs _ _ => by
    refine ⟨_, run_told (fs 0 0) (fs 0 1) (fs 1 0), fun hc => sat_sym ?_ rfl, fun hc => sat_sym ?_ rfl⟩
    · show _ = GR.mk false (GR.t [.l .u64 [iteI (cmpI .gtr (fs 1 0) 0) 0 (fs 0 0), iteI (cmpI .gtr (fs 1 0) 0) 0 (fs 0 1)], .b (!(cmpI .gtr (fs 1 0) 0))])
      rw [hc]; rfl
    · show _ = GR.mk false (GR.t [.l .u64 [iteI (cmpI .gtr (fs 1 0) 0) 0 (fs 0 0), iteI (cmpI .gtr (fs 1 0) 0) 0 (fs 0 1)], .b (!(cmpI .gtr (fs 1 0) 0))])
      rw [hc]; rfl

def toldA (h l c : Int) : AV := .tup [.agg [.si .u64 (iteI (cmpI .gtr c 0) 0 h), .si .u64 (iteI (cmpI .gtr c 0) 0 l)], .one (.sb (!(cmpI .gtr c 0)))]
theorem toldA_ok {h l c M : Int} (hM : M = valC h l + c * 340282366920938463463374607431768211456) (h1 : 0 ≤ h ∧ h ≤ 18446744073709551615) (h2 : 0 ≤ l ∧ l ≤ 18446744073709551615) (hc : 0 ≤ c) :
    toldA h l c = (T_ok (fit M) M).mk false := by
  unfold valC at hM
  by_cases h0 : c > 0
  · have e1 : cmpI .gtr c 0 = true := decide_eq_true h0
    have e2 : fit M = false := by unfold fit; rw [Bool.and_eq_false_iff]; right; exact decide_eq_false (by omega)
    unfold toldA T_ok
    rw [e1, e2]
    rfl
  · have e1 : cmpI .gtr c 0 = false := decide_eq_false h0
    have e2 : fit M = true := by unfold fit; rw [decide_eq_true (by omega : 0 ≤ M), decide_eq_true (by omega : M < 340282366920938463463374607431768211456)]; rfl
    have e3 : M / 18446744073709551616 = h := by omega
    have e4 : M % 18446744073709551616 = l := by omega
    unfold toldA T_ok
    rw [e1, e2, e3, e4]
    rfl
/-- The same where what is below nought is none. -/
theorem toldA_sub {h l c M : Int} (hM : M = valC h l - c * 340282366920938463463374607431768211456) (h1 : 0 ≤ h ∧ h ≤ 18446744073709551615) (h2 : 0 ≤ l ∧ l ≤ 18446744073709551615) (hc : 0 ≤ c) :
    toldA h l c = (T_ok (fit M) M).mk false := by
  unfold valC at hM
  by_cases h0 : c > 0
  · have e1 : cmpI .gtr c 0 = true := decide_eq_true h0
    have e2 : fit M = false := by unfold fit; rw [Bool.and_eq_false_iff]; left; exact decide_eq_false (by omega)
    unfold toldA T_ok
    rw [e1, e2]
    rfl
  · have e1 : cmpI .gtr c 0 = false := decide_eq_false h0
    have e2 : fit M = true := by unfold fit; rw [decide_eq_true (by omega : 0 ≤ M), decide_eq_true (by omega : M < 340282366920938463463374607431768211456)]; rfl
    have e3 : M / 18446744073709551616 = h := by omega
    have e4 : M % 18446744073709551616 = l := by omega
    unfold toldA T_ok
    rw [e1, e2, e3, e4]
    rfl

theorem fn_Add : FnOk Try.prog 13 Try.f13 := ⟨Try.func13, by kernel_rfl⟩
theorem run_Add (h l n : Int) : callA (cfgB [] [p_told] [(34, exAdd)]) false 100 Try.f13 [C2 h l, .one (.si .u64 n)] (memG gdB) =
    .need ((0 : Int) ≤ 1) (.need ((l + n + 0) / 18446744073709551616 ≤ 1) (.done (toldA ((h + 0 + (l + n + 0) / 18446744073709551616) % 18446744073709551616) ((l + n + 0) % 18446744073709551616) ((h + 0 + (l + n + 0) / 18446744073709551616) / 18446744073709551616)) Mem.empty)) := by kernel_rfl
def p_Add := (13, gsum [.l .u64 2, .w .u64] (fun _ => []) T_Add)
theorem two_ok {fs : Nat → Nat → Int} {j : Nat} (h : okL (.l .u64 2) (tab 2 (fs j))) : (0 ≤ fs j 0 ∧ fs j 0 ≤ 18446744073709551615) ∧ (0 ≤ fs j 1 ∧ fs j 1 ≤ 18446744073709551615) :=
  ⟨of_oku (h.2 _ (List.mem_map.2 ⟨0, by simp, rfl⟩)), of_oku (h.2 _ (List.mem_map.2 ⟨1, by simp, rfl⟩))⟩
theorem one_ok {fs : Nat → Nat → Int} {j : Nat} (h : okL (.w .u64) (tab 1 (fs j))) : 0 ≤ fs j 0 ∧ fs j 0 ≤ 18446744073709551615 := of_oku (h.2 _ (List.mem_map.2 ⟨0, by simp, rfl⟩))
theorem ps_Add : PSOk (cfgB [] [] []) p_Add.1 p_Add.2 :=
  upB (psok_e (C := cfgB [] [p_told] [(34, exAdd)]) (cokB (by simp) (by simp [ps_told]) (by simp [ex_Add])) rfl rfl fn_Add rfl 100 (fun fs => [C2 (fs 0 0) (fs 0 1), .one (.si .u64 (fs 1 0))]) (fun _ => rfl) fun fs h _ => by
    obtain ⟨h1, h2⟩ := two_ok h.1
    have h3 : 0 ≤ fs 1 0 ∧ fs 1 0 ≤ 18446744073709551615 := one_ok h.2.1
    exact ⟨_, run_Add (fs 0 0) (fs 0 1) (fs 1 0), by decide, by omega, sat_same (toldA_ok (by unfold valC; show fs 0 0 * _ + fs 0 1 + fs 1 0 = _; omega) (by omega) (by omega) (by omega))⟩)

theorem fn_Sub : FnOk Try.prog 14 Try.f14 := ⟨Try.func14, by kernel_rfl⟩
def bor (l n : Int) : Int := iteI (decide (l < n + 0)) 1 0
theorem run_Sub (h l n : Int) : callA (cfgB [] [p_told] [(36, exSub)]) false 100 Try.f14 [C2 h l, .one (.si .u64 n)] (memG gdB) =
    .need ((0 : Int) ≤ 1) (.need (bor l n ≤ 1) (.done (toldA ((h - 0 - bor l n) % 18446744073709551616) ((l - n - 0) % 18446744073709551616) (iteI (decide (h < 0 + bor l n)) 1 0)) Mem.empty)) := by kernel_rfl
def p_Sub := (14, gsum [.l .u64 2, .w .u64] (fun _ => []) T_Sub)
theorem iteI_01 (c : Bool) : (c = true ∧ iteI c 1 0 = 1) ∨ (c = false ∧ iteI c 1 0 = 0) := by cases c <;> simp [iteI]
theorem ps_Sub : PSOk (cfgB [] [] []) p_Sub.1 p_Sub.2 :=
  upB (psok_e (C := cfgB [] [p_told] [(36, exSub)]) (cokB (by simp) (by simp [ps_told]) (by simp [ex_Sub])) rfl rfl fn_Sub rfl 100 (fun fs => [C2 (fs 0 0) (fs 0 1), .one (.si .u64 (fs 1 0))]) (fun _ => rfl) fun fs h _ => by
    obtain ⟨h1, h2⟩ := two_ok h.1
    have h3 : 0 ≤ fs 1 0 ∧ fs 1 0 ≤ 18446744073709551615 := one_ok h.2.1
    have hb : (fs 0 1 < fs 1 0 ∧ bor (fs 0 1) (fs 1 0) = 1) ∨ (¬ fs 0 1 < fs 1 0 ∧ bor (fs 0 1) (fs 1 0) = 0) := by
      unfold bor
      rcases iteI_01 (decide (fs 0 1 < fs 1 0 + 0)) with ⟨q, e⟩ | ⟨q, e⟩
      · have := of_decide_eq_true q; exact .inl ⟨by omega, e⟩
      · have := of_decide_eq_false q; exact .inr ⟨by omega, e⟩
    have hc : (fs 0 0 < bor (fs 0 1) (fs 1 0) ∧ iteI (decide (fs 0 0 < 0 + bor (fs 0 1) (fs 1 0))) 1 0 = 1) ∨ (¬ fs 0 0 < bor (fs 0 1) (fs 1 0) ∧ iteI (decide (fs 0 0 < 0 + bor (fs 0 1) (fs 1 0))) 1 0 = 0) := by
      rcases iteI_01 (decide (fs 0 0 < 0 + bor (fs 0 1) (fs 1 0))) with ⟨q, e⟩ | ⟨q, e⟩
      · have := of_decide_eq_true q; exact .inl ⟨by omega, e⟩
      · have := of_decide_eq_false q; exact .inr ⟨by omega, e⟩
    exact ⟨_, run_Sub (fs 0 0) (fs 0 1) (fs 1 0), by decide, by omega, sat_same (toldA_sub (by unfold valC; show fs 0 0 * _ + fs 0 1 - fs 1 0 = _; omega) (by omega) (by omega) (by omega))⟩)

end Go.Proofs.Ytljchidgchjoeaa
