/- Layer 13: the round, and the round back. -/
import Derived.Test.YtpnikmkijedmbaaDoorSp1
namespace Go.Proofs.YtpnikmkijedmbaaDoor
open Go Go.Ax

def L5 (es : List Int) : AV := .agg (es.map (.si .u64))

/-! ## Rows -/

def chi5 (es : List Int) : List Int := tab 5 fun x => xo (nth es x) (binI .andNot .u64 (nth es ((x + 2) % 5)) (nth es ((x + 1) % 5)))
def chi5R (es : List Int) : List Int := tab 5 fun x => xo (nth es x) (binI .and .u64 (unI .xor .u64 (nth es ((x + 1) % 5))) (nth es ((x + 2) % 5)))
theorem not_and (b c : Int) : binI .and .u64 (unI .xor .u64 b) c = binI .andNot .u64 c b := by
  rw [not_nb, and_nb, andNot_nb, bv_nb, BitVec.and_comm]
theorem chi5R_eq (es : List Int) : chi5R es = chi5 es := tab_congr fun i _ => by rw [not_and]
theorem fn_chi5 : FnOk Tryd.prog 50 Tryd.f50 := ⟨Tryd.func50, by kernel_rfl⟩
theorem run_chi5 (f : Nat → Int) : callA (cfg [] []) false 3000 Tryd.f50 [L5 (tab 5 f)] (memG gdA) = .done (L5 (chi5R (tab 5 f))) Mem.empty := by kernel_rfl
def p_chi5 := (50, gsum [.l .u64 5] (fun _ => []) fun l => .p (.l .u64 (chi5 (row0 l))))
theorem ps_chi5 : PSOk (cfg [] []) p_chi5.1 p_chi5.2 :=
  up (psok_e (C := cfg [] []) (cok (by simp) (by simp)) rfl rfl fn_chi5 rfl 3000 (fun fs => [L5 (tab 5 (fs 0))]) (fun _ => rfl) fun fs _ _ =>
    ⟨_, run_chi5 (fs 0), sat_same (by rw [chi5R_eq]; rfl)⟩)

/-! ## The round -/

def roundG (es : List Int) (r : Int) : List Int := iotaL (chiL (piL (rhoL (thetaG (xo 0) es)))) r
theorem fn_Round : FnOk Tryd.prog 29 Tryd.f29 := ⟨Tryd.func29, by kernel_rfl⟩
theorem run_Round (f : Nat → Int) (r : Int) : callA (cfg [] [p_Turn, p_Offset, p_chi5, p_Constant]) false 3000 Tryd.f29 [L25 (tab 25 f), .one (.si .i64 r)] (memG gdA) = .done (L25 (roundG (tab 25 f) r)) Mem.empty := by kernel_rfl
def p_Round := (29, gsum [.l .u64 25, .w .i64] (fun _ => []) T_Round)
theorem ps_Round : PSOk (cfg [] []) p_Round.1 p_Round.2 :=
  up (psok_e (C := cfg [] [p_Turn, p_Offset, p_chi5, p_Constant]) (cok (by simp) (by simp [ps_Turn, ps_Offset, ps_chi5, ps_Constant])) rfl rfl fn_Round rfl 3000 (fun fs => [L25 (tab 25 (fs 0)), .one (.si .i64 (fs 1 0))]) (fun _ => rfl) fun fs h _ =>
    ⟨_, run_Round (fs 0) (fs 1 0), sat_same (by unfold roundG; rw [show thetaG (xo 0) (tab 25 (fs 0)) = thetaL (tab 25 (fs 0)) from thetaG_0 h.1.2]; rfl)⟩)

end Go.Proofs.YtpnikmkijedmbaaDoor
