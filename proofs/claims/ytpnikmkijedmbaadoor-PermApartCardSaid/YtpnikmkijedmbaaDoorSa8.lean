/- The document's steps (layer 12's reference). -/
import Derived.Test.YtpnikmkijedmbaaDoorSa7
namespace Go.Proofs.YtpnikmkijedmbaaDoor
open Go Go.Ax

theorem xo0 {z : Int} (h : okI .u64 z) : xo 0 z = z := by
  show binI .xor .u64 0 z = z
  rw [xor_nb]
  have : bv 0 = 0#64 := rfl
  rw [this, BitVec.zero_xor, nb_bv h]

def T_place : List (List Int) → GR := fun l => .p (.w .i64 (binI .add .i64 (binI .rem .i64 (binI .add .i64 (one l 0) 10) 5) (binI .mul .i64 5 (binI .rem .i64 (binI .add .i64 (one l 1) 10) 5))))
def p_place := (37, gsum [.w .i64, .w .i64] (fun _ => []) T_place)
theorem run_place (x y : Int) : callA (cfg [] []) false 100 Tryd.f37 [.one (.si .i64 x), .one (.si .i64 y)] (memG gdA) =
    .done (.one (.si .i64 (binI .add .i64 (binI .rem .i64 (binI .add .i64 x 10) 5) (binI .mul .i64 5 (binI .rem .i64 (binI .add .i64 y 10) 5))))) Mem.empty := by kernel_rfl
theorem ps_place : PSOk (cfg [] []) p_place.1 p_place.2 :=
  psok_e (cok (by simp) (by simp)) rfl rfl fn_place rfl 100 (fun fs => [.one (.si .i64 (fs 0 0)), .one (.si .i64 (fs 1 0))]) (fun _ => rfl) fun fs _ _ => ⟨_, run_place (fs 0 0) (fs 1 0), sat_same rfl⟩

/-! ## Theta -/

def colG (z : Int → Int) (es : List Int) (x : Int) : Int := xo (xo (xo (xo (z (sel es (atI x 0))) (sel es (atI x 1))) (sel es (atI x 2))) (sel es (atI x 3))) (sel es (atI x 4))
def thetaG (z : Int → Int) (es : List Int) : List Int := tab 25 fun i => xo (nth es i) (xo (colG z es ((i % 5 : Nat) - 1)) (rot (colG z es ((i % 5 : Nat) + 1)) (-1)))
theorem sel_ok {es : List Int} {i : Int} (h : ∀ e ∈ es, okI .u64 e) : okI .u64 (sel es i) := by
  unfold sel
  cases hq : es[i.toNat]? with
  | none => simp [hq]; decide
  | some x => simp [hq]; exact h x (List.mem_of_getElem? hq)
theorem thetaG_0 {es : List Int} (h : ∀ e ∈ es, okI .u64 e) : thetaG (xo 0) es = thetaL es := by
  have e : ∀ x, colG (xo 0) es x = colI es x := fun x => by unfold colG colI; rw [xo0 (sel_ok h)]
  unfold thetaG thetaL
  refine tab_congr fun i _ => ?_
  rw [e, e]
theorem fn_RTheta : FnOk Tryd.prog 25 Tryd.f25 := ⟨Tryd.func25, by kernel_rfl⟩
theorem run_RTheta (f : Nat → Int) : callA (cfg [] [p_place, p_Xor, p_RTurn]) false 3000 Tryd.f25 [L25 (tab 25 f)] (memG gdA) = .done (L25 (thetaG (xo 0) (tab 25 f))) Mem.empty := by kernel_rfl
def p_RTheta := (25, gsum [.l .u64 25] (fun _ => []) T_Theta)
theorem ps_RTheta : PSOk (cfg [] []) p_RTheta.1 p_RTheta.2 :=
  up (psok_e (C := cfg [] [p_place, p_Xor, p_RTurn]) (cok (by simp) (by simp [ps_place, ps_Xor, ps_RTurn])) rfl rfl fn_RTheta rfl 3000 (fun fs => [L25 (tab 25 (fs 0))]) (fun _ => rfl) fun fs h _ =>
    ⟨_, run_RTheta (fs 0), sat_same (by rw [show thetaG (xo 0) (tab 25 (fs 0)) = thetaL (tab 25 (fs 0)) from thetaG_0 h.1.2]; rfl)⟩)

/-! ## Rho, Pi -/

theorem fn_RRho : FnOk Tryd.prog 26 Tryd.f26 := ⟨Tryd.func26, by kernel_rfl⟩
theorem run_RRho (f : Nat → Int) : callA (cfg [] [p_Offsets, p_RTurn]) false 3000 Tryd.f26 [L25 (tab 25 f)] (memG gdA) = .done (L25 (rhoL (tab 25 f))) Mem.empty := by kernel_rfl
def p_RRho := (26, gsum [.l .u64 25] (fun _ => []) T_Rho)
theorem ps_RRho : PSOk (cfg [] []) p_RRho.1 p_RRho.2 :=
  up (psok_e (C := cfg [] [p_Offsets, p_RTurn]) (cok (by simp) (by simp [ps_Offsets, ps_RTurn])) rfl rfl fn_RRho rfl 3000 (fun fs => [L25 (tab 25 (fs 0))]) (fun _ => rfl) fun fs _ _ =>
    ⟨_, run_RRho (fs 0), sat_same rfl⟩)

theorem fn_RPi : FnOk Tryd.prog 27 Tryd.f27 := ⟨Tryd.func27, by kernel_rfl⟩
theorem run_RPi (f : Nat → Int) : callA (cfg [] [p_place]) false 3000 Tryd.f27 [L25 (tab 25 f)] (memG gdA) = .done (L25 (piL (tab 25 f))) Mem.empty := by kernel_rfl
def p_RPi := (27, gsum [.l .u64 25] (fun _ => []) T_Pi)
theorem ps_RPi : PSOk (cfg [] []) p_RPi.1 p_RPi.2 :=
  up (psok_e (C := cfg [] [p_place]) (cok (by simp) (by simp [ps_place])) rfl rfl fn_RPi rfl 3000 (fun fs => [L25 (tab 25 (fs 0))]) (fun _ => rfl) fun fs _ _ =>
    ⟨_, run_RPi (fs 0), sat_same rfl⟩)

end Go.Proofs.YtpnikmkijedmbaaDoor
