/- Layer 12: the law StepLinear. -/
import Derived.Test.YtpnikmkijedmbaaDoorSa8
import Derived.Test.YtpnikmkijedmbaaDoorSa5
namespace Go.Proofs.YtpnikmkijedmbaaDoor
open Go Go.Ax

/-- Tests one behind the other: the first one that holds ends the run. -/
def falseTree : List Bool → Out
  | [] => .done (.one (.lb true)) Mem.empty
  | c :: cs => .br c (.done (.one (.lb false)) Mem.empty) (falseTree cs)
theorem falseTree_sat : ∀ {cs : List Bool}, (∀ c ∈ cs, c = false) → (falseTree cs).sat fun v _ => v = .one (.sb true) ∨ v = .one (.lb true)
  | [], _ => .inr rfl
  | c :: cs, h => ⟨fun hc => (by rw [h c (List.mem_cons_self ..)] at hc; cases hc), fun _ => falseTree_sat fun c hc => h c (List.mem_cons_of_mem _ hc)⟩

def linC (A B X : List Int) : List Bool :=
  [!(eqL (thetaL A) (thetaL A)), !(eqL (rhoL A) (rhoL A)), !(eqL (piL A) (piL A))] ++
    (List.range 25).flatMap fun i => [cmpI .neq (nth (thetaL X) i) (xo (nth (thetaL A) i) (nth (thetaL B) i)), cmpI .neq (nth (rhoL X) i) (xo (nth (rhoL A) i) (nth (rhoL B) i)), cmpI .neq (nth (piL X) i) (xo (nth (piL A) i) (nth (piL B) i))]
theorem fn_StepLinear : FnOk Tryd.prog 7 Tryd.f7 := ⟨Tryd.func7, by kernel_rfl⟩
theorem run_StepLinear (f g : Nat → Int) : callA (cfg [] [p_wakes12, p_Theta, p_Rho, p_Pi, p_RTheta, p_RRho, p_RPi]) false 3000 Tryd.f7 [L25 (tab 25 f), L25 (tab 25 g)] (memG gdA) =
    falseTree (linC (tab 25 f) (tab 25 g) (tab 25 fun i => xo (f i) (g i))) := by kernel_rfl

theorem xo_nb' (x y : Int) : xo x y = nb (bv x ^^^ bv y) := xor_nb x y
theorem bv_xo (x y : Int) : bv (xo x y) = bv x ^^^ bv y := by rw [xo_nb', bv_nb]
theorem rot_xo (x y n : Int) : rot (xo x y) n = xo (rot x n) (rot y n) := by
  rw [xo_nb' (rot x n)]
  unfold rot
  rw [bv_xo, bv_nb, bv_nb]
  congr 1
  ext i hi
  simp only [← BitVec.getLsbD_eq_getElem, BitVec.getLsbD_rotateRight, BitVec.getLsbD_xor]
  by_cases h : i < 64 - (n % 64).toNat % 64
  · simp [h]
  · simp [h, hi]
theorem xo4 (a b c d : Int) : xo (xo a b) (xo c d) = xo (xo a c) (xo b d) := by
  simp only [xo_nb', bv_nb]
  congr 1
  ac_rfl
theorem nth_tab {n i : Nat} {f : Nat → Int} (h : i < n) : nth (tab n f) i = f i := tab_get h
theorem sel_nth {es : List Int} {i : Nat} : sel es (i : Int) = nth es i := rfl

section
variable {A B : List Int}
def xorL (A B : List Int) : List Int := tab 25 fun i => xo (nth A i) (nth B i)
theorem sel_xorL (x y : Int) : sel (xorL A B) (atI x y) = xo (sel A (atI x y)) (sel B (atI x y)) := by
  have h := atI_range x y
  obtain ⟨k, hk⟩ : ∃ k : Nat, atI x y = (k : Int) := ⟨(atI x y).toNat, by omega⟩
  rw [hk, sel_nth, xorL, nth_tab (by omega)]
  rfl
theorem colI_xorL (x : Int) : colI (xorL A B) x = xo (colI A x) (colI B x) := by
  unfold colI
  simp only [sel_xorL]
  simp only [xo_nb', bv_nb]
  congr 1
  ac_rfl
theorem theta_lin {i : Nat} (h : i < 25) : nth (thetaL (xorL A B)) i = xo (nth (thetaL A) i) (nth (thetaL B) i) := by
  unfold thetaL
  rw [nth_tab h, nth_tab h, nth_tab h, colI_xorL, colI_xorL, rot_xo, xo4 (colI A _), xorL, nth_tab h, xo4]
theorem rho_lin {i : Nat} (h : i < 25) : nth (rhoL (xorL A B)) i = xo (nth (rhoL A) i) (nth (rhoL B) i) := by
  unfold rhoL
  rw [nth_tab h, nth_tab h, nth_tab h, xorL, nth_tab h, rot_xo]
theorem pi_lin {i : Nat} (h : i < 25) : nth (piL (xorL A B)) i = xo (nth (piL A) i) (nth (piL B) i) := by
  unfold piL
  rw [nth_tab h, nth_tab h, nth_tab h, xorL, nth_tab (by omega)]
end

theorem lin_all (f g : Nat → Int) : ∀ c ∈ linC (tab 25 f) (tab 25 g) (tab 25 fun i => xo (f i) (g i)), c = false := by
  have e : (tab 25 fun i => xo (f i) (g i)) = xorL (tab 25 f) (tab 25 g) := tab_congr fun i hi => by rw [nth_tab hi, nth_tab hi]
  rw [e]
  intro c hc
  unfold linC at hc
  rcases List.mem_append.1 hc with hc | hc
  · simp only [eqL_self, Bool.not_true, List.mem_cons, List.not_mem_nil, or_false, or_self] at hc
    exact hc
  · obtain ⟨i, hi, hc⟩ := List.mem_flatMap.1 hc
    have hi := List.mem_range.1 hi
    rw [theta_lin hi, rho_lin hi, pi_lin hi] at hc
    simp only [cmpI, List.mem_cons, List.not_mem_nil, or_false] at hc
    rcases hc with h | h | h <;> · rw [h]; simp

theorem law_StepLinear {W : World} {base : Nat} {args : Array Value} (hsz : Tryd.f7.params.toList.length = args.toList.length)
    (hval : ∀ (j : Nat) t v, Tryd.f7.params[j]? = some t → args[j]? = some v → Value.okWide Tryd.prog W .any base t v) (hgd : GD gdA W.heap.size W) :
    Calls Tryd.prog 7 args W fun e w' => e = .returned (.bool true) ∧ RowKit.Below W.heap.size W w' :=
  law_e (C := cfg [] [p_wakes12, p_Theta, p_Rho, p_Pi, p_RTheta, p_RRho, p_RPi]) (cok (by simp) (by simp [ps_wakes12, ps_Theta, ps_Rho, ps_Pi, ps_RTheta, ps_RRho, ps_RPi])) rfl rfl fn_StepLinear (shs := [.l .u64 25, .l .u64 25]) (by kernel_rfl) 3000
    (fun fs => [L25 (tab 25 (fs 0)), L25 (tab 25 (fs 1))]) (fun _ => rfl) (fun fs _ => ⟨_, run_StepLinear (fs 0) (fs 1), falseTree_sat (lin_all _ _)⟩) hsz hval hgd

end Go.Proofs.YtpnikmkijedmbaaDoor
