/- Layer 12: the reference's constants, and iota. -/
import Derived.Test.YtpnikmkijedmbaaDoorSa11
namespace Go.Proofs.YtpnikmkijedmbaaDoor
open Go Go.Ax

theorem fn_RConstant : FnOk Tryd.prog 22 Tryd.f22 := ⟨Tryd.func22, by kernel_rfl⟩
def pOfU (U : List Int → Int) := (42, gsum [.l .i64 64] (fun _ => []) fun l => .p (.w .u64 (U (row0 l))))
noncomputable def cRConstant (U : List Int → Int) : Cfg := cfgL [(44, Tryd.f44)] [pOfU U] [(3, (0, (List.range 24).map fun (n : Nat) => (n : Int)))] [(3, bd_rc, F_rc)]
def rcBit (t : Nat) : Int := (nth lfsTab (t % 255)) % 2
def conBits (v : Nat) : List Int := (List.range 64).map fun p => match p with | 0 => rcBit (7 * v) | 1 => rcBit (1 + 7 * v) | 3 => rcBit (2 + 7 * v) | 7 => rcBit (3 + 7 * v) | 15 => rcBit (4 + 7 * v) | 31 => rcBit (5 + 7 * v) | 63 => rcBit (6 + 7 * v) | _ => 0
def seven : Nat → Out → Out
  | 0, o => o
  | n + 1, o => .need (bd_rc = bd_rc) (seven n o)
def conTreeV (U : List Int → Int) (r : Int) : List Nat → Out
  | [] => .bad 30
  | v :: vs => .br (decide (r = (v : Int))) (seven 7 (.done (.one (.si .u64 (U (conBits v)))) Mem.empty)) (conTreeV U r vs)
theorem run_RConstant (U : List Int → Int) (r : Int) : callA (cRConstant U) false 30000 Tryd.f22 [.one (.si .i64 r)] (memG gdA) =
    .br (decide (r < 0)) (.done (.one (.li .u64 0)) Mem.empty) (.br (decide (r > 23)) (.done (.one (.li .u64 0)) Mem.empty) (conTreeV U r (List.range 24))) := by kernel_rfl
def p_RConstant := (22, gsum [.w .i64] (fun _ => []) T_Constant)
theorem seven_sat {K : AV → Mem → Prop} {o : Out} : ∀ n, o.sat K → (seven n o).sat K
  | 0, h => h
  | n + 1, h => ⟨rfl, seven_sat n h⟩
theorem conTreeV_sat {U : List Int → Int} {r : Int} {K : AV → Mem → Prop} : ∀ {vs : List Nat}, (∀ v ∈ vs, r = (v : Int) → K (.one (.si .u64 (U (conBits v)))) Mem.empty) → (∃ v ∈ vs, r = (v : Int)) → (conTreeV U r vs).sat K
  | [], _, ⟨_, h, _⟩ => by cases h
  | v :: vs, h, ⟨u, hu, hru⟩ => ⟨fun hc => seven_sat 7 (h v (List.mem_cons_self ..) (of_decide_eq_true hc)), fun hc => conTreeV_sat (fun x hx => h x (List.mem_cons_of_mem _ hx)) (by
      rcases List.mem_cons.1 hu with rfl | hu
      · exact absurd hru (of_decide_eq_false hc)
      · exact ⟨u, hu, hru⟩)⟩
theorem con_of : ((List.range 24).all fun v => decide (ofI (conBits v) = nth rcs v)) = true := by kernel_rfl
theorem cok_RConstant : COk (cRConstant ofI) := cokL (by simp [fn_rc]) (fun p hp => by
  have : p ∈ [p_Of] := hp
  simp at this
  subst this
  exact ps_Of) (fun p hp => by
  simp at hp
  subst hp
  exact LoopOk.cast (C := cfg [] [p_Xor]) (C' := cfg [] []) rfl rfl rfl lp_rc)
theorem ps_RConstant : PSOk (cfg [] []) p_RConstant.1 p_RConstant.2 :=
  (psok_e (C := cRConstant ofI) cok_RConstant rfl rfl fn_RConstant rfl 30000 (fun fs => [.one (.si .i64 (fs 0 0))]) (fun _ => rfl) fun fs _ _ => by
    refine ⟨_, run_RConstant ofI (fs 0 0), ?_⟩
    have e : one (tabs [.w .i64] 0 fs) 0 = fs 0 0 := rfl
    refine ⟨fun h => ⟨rfl, fun v hv => ?_⟩, fun h => ⟨fun h2 => ⟨rfl, fun v hv => ?_⟩, fun h2 => conTreeV_sat (fun v hv hr => ?_) ⟨(fs 0 0).toNat, ?_⟩⟩⟩
    · have h := of_decide_eq_true h
      have : rcI (fs 0 0) = 0 := if_neg (by omega)
      simp only [T_Constant, e, this]
      exact hv
    · have h2 := of_decide_eq_true h2
      have : rcI (fs 0 0) = 0 := if_neg (by omega)
      simp only [T_Constant, e, this]
      exact hv
    · have h := of_decide_eq_false h
      have h2 := of_decide_eq_false h2
      have h3 : ofI (conBits v) = nth rcs v := of_decide_eq_true (List.all_eq_true.1 con_of v hv)
      have : rcI (fs 0 0) = nth rcs v := by rw [show rcI (fs 0 0) = sel rcs (fs 0 0) from if_pos (by omega), hr]; rfl
      rw [h3]
      exact sat_same (by simp only [T_Constant, e, this]; rfl)
    · have h := of_decide_eq_false h
      have h2 := of_decide_eq_false h2
      exact ⟨List.mem_range.2 (by omega), by omega⟩).cast rfl rfl rfl

theorem fn_RIota : FnOk Tryd.prog 20 Tryd.f20 := ⟨Tryd.func20, by kernel_rfl⟩
theorem run_RIota (f : Nat → Int) (r : Int) : callA (cfg [] [p_Xor, p_RConstant]) false 1000 Tryd.f20 [L25 (tab 25 f), .one (.si .i64 r)] (memG gdA) = .done (L25 (iotaL (tab 25 f) r)) Mem.empty := by kernel_rfl
def p_RIota := (20, gsum [.l .u64 25, .w .i64] (fun _ => []) T_Iota)
theorem ps_RIota : PSOk (cfg [] []) p_RIota.1 p_RIota.2 :=
  up (psok_e (C := cfg [] [p_Xor, p_RConstant]) (cok (by simp) (by simp [ps_Xor, ps_RConstant])) rfl rfl fn_RIota rfl 1000 (fun fs => [L25 (tab 25 (fs 0)), .one (.si .i64 (fs 1 0))]) (fun _ => rfl) fun fs _ _ => ⟨_, run_RIota (fs 0) (fs 1 0), sat_same rfl⟩)

end Go.Proofs.YtpnikmkijedmbaaDoor
