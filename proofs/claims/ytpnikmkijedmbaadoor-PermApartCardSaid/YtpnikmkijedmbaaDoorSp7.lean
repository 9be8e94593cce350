/- Layer 13: the laws PermRounds, PermF, PermPart. -/
import Derived.Test.YtpnikmkijedmbaaDoorSp6
import Derived.Test.YtpnikmkijedmbaaDoorSa13
namespace Go.Proofs.YtpnikmkijedmbaaDoor
open Go Go.Ax

theorem fn_PermRounds : FnOk Tryd.prog 8 Tryd.f8 := ⟨Tryd.func8, by kernel_rfl⟩
theorem run_PermRounds (f : Nat → Int) (r : Int) : callA (cfg [] [p_wakes13, p_RTheta, p_RRho, p_RPi, p_RChi, p_RIota, p_Round, p_R13Round]) false 1000 Tryd.f8 [L25 (tab 25 f), .one (.si .i64 r)] (memG gdA) =
    andTree (eqL (roundL (tab 25 f) r) (roundL (tab 25 f) r)) [eqL (roundL (tab 25 f) r) (roundL (tab 25 f) r)] := by kernel_rfl
theorem law_PermRounds {W : World} {base : Nat} {args : Array Value} (hsz : Tryd.f8.params.toList.length = args.toList.length)
    (hval : ∀ (j : Nat) t v, Tryd.f8.params[j]? = some t → args[j]? = some v → Value.okWide Tryd.prog W .any base t v) (hgd : GD gdA W.heap.size W) :
    Calls Tryd.prog 8 args W fun e w' => e = .returned (.bool true) ∧ RowKit.Below W.heap.size W w' :=
  law_e (C := cfg [] [p_wakes13, p_RTheta, p_RRho, p_RPi, p_RChi, p_RIota, p_Round, p_R13Round]) (cok (by simp) (by simp [ps_wakes13, ps_RTheta, ps_RRho, ps_RPi, ps_RChi, ps_RIota, ps_Round, ps_R13Round])) rfl rfl fn_PermRounds (shs := [.l .u64 25, .w .i64]) (by kernel_rfl) 1000
    (fun fs => [L25 (tab 25 (fs 0)), .one (.si .i64 (fs 1 0))]) (fun _ => rfl) (fun fs _ => ⟨_, run_PermRounds (fs 0) (fs 1 0), andTree_sat (eqL_self _) fun c hc => by
        simp only [eqL_self, List.mem_cons, List.not_mem_nil, or_false] at hc
        exact hc⟩) hsz hval hgd

theorem fn_PermF : FnOk Tryd.prog 9 Tryd.f9 := ⟨Tryd.func9, by kernel_rfl⟩
theorem run_PermF (f : Nat → Int) (c : Int) : callA (cfg [] [p_wakes13, p_F, p_RF, p_Rounds]) false 1000 Tryd.f9 [L25 (tab 25 f), .one (.si .i64 c)] (memG gdA) =
    andTree (eqL (roundsN (roundsN (tab 25 f) 0 c) c 24) (roundsN (tab 25 f) 0 24)) [eqL (roundsN (tab 25 f) 0 24) (roundsN (tab 25 f) 0 24)] := by kernel_rfl
theorem rounds_cut {es : List Int} (h : es.length = 25) (c : Int) : roundsN (roundsN es 0 c) c 24 = roundsN es 0 24 := by
  have e : (roundsL (RL Rn) es 0 c).length = 25 := seqL_len _ _ _ h
  rw [roundsN_eq h, roundsN_eq h, roundsN_eq e]
  unfold roundsL
  have hc := clamp_spec c
  have h0 : clampI 0 = 0 := rfl
  have h24 : clampI 24 = 24 := rfl
  rw [h0, h24, show ((24 : Int) - 0).toNat = (clampI c - 0).toNat + (24 - clampI c).toNat by omega, seqL_add, show (0 : Int).toNat + (clampI c - 0).toNat = (clampI c).toNat by omega]
theorem law_PermF {W : World} {base : Nat} {args : Array Value} (hsz : Tryd.f9.params.toList.length = args.toList.length)
    (hval : ∀ (j : Nat) t v, Tryd.f9.params[j]? = some t → args[j]? = some v → Value.okWide Tryd.prog W .any base t v) (hgd : GD gdA W.heap.size W) :
    Calls Tryd.prog 9 args W fun e w' => e = .returned (.bool true) ∧ RowKit.Below W.heap.size W w' :=
  law_e (C := cfg [] [p_wakes13, p_F, p_RF, p_Rounds]) (cok (by simp) (by simp [ps_wakes13, ps_F, ps_RF, ps_Rounds])) rfl rfl fn_PermF (shs := [.l .u64 25, .w .i64]) (by kernel_rfl) 1000
    (fun fs => [L25 (tab 25 (fs 0)), .one (.si .i64 (fs 1 0))]) (fun _ => rfl) (fun fs _ => ⟨_, run_PermF (fs 0) (fs 1 0), andTree_sat (by rw [rounds_cut (by simp [tab]), eqL_self]) fun c hc => by
        simp only [eqL_self, List.mem_cons, List.not_mem_nil, or_false] at hc
        exact hc⟩) hsz hval hgd

theorem fn_PermPart : FnOk Tryd.prog 10 Tryd.f10 := ⟨Tryd.func10, by kernel_rfl⟩
theorem run_PermPart (f : Nat → Int) (a b : Int) : callA (cfg [] [p_wakes13, p_RRounds, p_Rounds]) false 1000 Tryd.f10 [L25 (tab 25 f), .one (.si .i64 a), .one (.si .i64 b)] (memG gdA) =
    .br (eqL (roundsN (tab 25 f) a b) (roundsN (tab 25 f) a b)) (.br (cmpI .lss a b) (.done (.one (.lb true)) Mem.empty) (.done (.one (.sb (eqL (roundsN (tab 25 f) a b) (tab 25 f)))) Mem.empty)) (.done (.one (.lb false)) Mem.empty) := by kernel_rfl
theorem rounds_none {es : List Int} (h : es.length = 25) {a b : Int} (hab : ¬ a < b) : roundsN es a b = es := by
  rw [roundsN_eq h]
  unfold roundsL
  have ha := clamp_spec a
  have hb := clamp_spec b
  have : (clampI b - clampI a).toNat = 0 := by
    by_cases h1 : b ≤ 0
    · have := hb.2.2.1 h1; omega
    · by_cases h2 : 24 ≤ a
      · have := ha.2.2.2.1 h2; omega
      · have := ha.2.2.2.2 (by omega) (by omega)
        have := hb.2.2.2.2 (by omega) (by omega)
        omega
  rw [this]
  rfl
theorem law_PermPart {W : World} {base : Nat} {args : Array Value} (hsz : Tryd.f10.params.toList.length = args.toList.length)
    (hval : ∀ (j : Nat) t v, Tryd.f10.params[j]? = some t → args[j]? = some v → Value.okWide Tryd.prog W .any base t v) (hgd : GD gdA W.heap.size W) :
    Calls Tryd.prog 10 args W fun e w' => e = .returned (.bool true) ∧ RowKit.Below W.heap.size W w' :=
  law_e (C := cfg [] [p_wakes13, p_RRounds, p_Rounds]) (cok (by simp) (by simp [ps_wakes13, ps_RRounds, ps_Rounds])) rfl rfl fn_PermPart (shs := [.l .u64 25, .w .i64, .w .i64]) (by kernel_rfl) 1000
    (fun fs => [L25 (tab 25 (fs 0)), .one (.si .i64 (fs 1 0)), .one (.si .i64 (fs 2 0))]) (fun _ => rfl) (fun fs _ => ⟨_, run_PermPart (fs 0) (fs 1 0) (fs 2 0), fun _ => ⟨fun _ => .inr rfl, fun h => .inl (by rw [rounds_none (by simp [tab]) (of_decide_eq_false h), eqL_self])⟩, fun h => by rw [eqL_self] at h; cases h⟩) hsz hval hgd

end Go.Proofs.YtpnikmkijedmbaaDoor
