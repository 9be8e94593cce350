/- Layer 13: the document's round. -/
import Derived.Test.YtnghpimihklmdaaDoorZ9
namespace Go.Proofs.YtnghpimihklmdaaDoor
open Go Go.Ax
set_option linter.unusedSectionVars false
variable [JW]

/-! ## Turned to the left -/

def leftI (x n : Int) : Int := iteI (cmpI .eql n 0) x (binI .or .u64 (binI .shl .u64 x (IntKind.u64.wrap n)) (binI .shr .u64 x (IntKind.u64.wrap (binI .sub .i64 64 n))))
def T_left : List (List Int) → GR := fun l => .p (.w .u64 (leftI (one l 0) (one l 1)))
def p_left := (145, gsum [.w .u64, .w .i64] (fun _ => []) T_left)
theorem fn_left : FnOk Tryd.prog 145 Tryd.f145 := ⟨Tryd.func145, by kernel_rfl⟩
theorem run_left (x n : Int) : callA (cfg [] []) false 100 Tryd.f145 [.one (.si .u64 x), .one (.si .i64 n)] (memG gdA) =
    .br (cmpI .eql n 0) (.done (.one (.si .u64 x)) Mem.empty) (.done (.one (.si .u64 (binI .or .u64 (binI .shl .u64 x (IntKind.u64.wrap n)) (binI .shr .u64 x (IntKind.u64.wrap (binI .sub .i64 64 n)))))) Mem.empty) := by kernel_rfl
theorem ps_left : PSOk (cfg [] []) p_left.1 p_left.2 :=
  psok_e (cok (by simp) (by simp)) rfl rfl fn_left rfl 100 (fun fs => [.one (.si .u64 (fs 0 0)), .one (.si .i64 (fs 1 0))]) (fun _ => rfl) fun fs _ _ =>
    ⟨_, run_left (fs 0 0) (fs 1 0), fun h => sat_same (by show _ = AV.one (.si .u64 (leftI (fs 0 0) (fs 1 0))); unfold leftI; rw [h]; rfl), fun h => sat_same (by show _ = AV.one (.si .u64 (leftI (fs 0 0) (fs 1 0))); unfold leftI; rw [h]; rfl)⟩

theorem left_rot {x n : Int} (hx : okI .u64 x) (h1 : 0 ≤ n) (h2 : n < 64) : leftI x n = rot x (-n) := by
  obtain ⟨m, rfl⟩ : ∃ m : Nat, n = (m : Int) := ⟨n.toNat, by omega⟩
  by_cases h : m = 0
  · subst h
    show x = rot x (-0)
    unfold rot
    rw [show ((-0 : Int) % 64).toNat = 0 from rfl, BitVec.rotateRight_def]
    simp [nb_bv hx]
  · have e : cmpI .eql (m : Int) 0 = false := by simp [cmpI]; exact h
    unfold leftI
    rw [e]
    show binI .or .u64 _ _ = _
    have e1 : IntKind.u64.wrap (m : Int) = ((m : Nat) : Int) := wrap_ok (oku (by omega) (by omega))
    have e2 : IntKind.u64.wrap (binI .sub .i64 64 (m : Int)) = ((64 - m : Nat) : Int) := by
      rw [sub64 (by omega) (by omega)]
      have : (64 : Int) - m = ((64 - m : Nat) : Int) := by omega
      rw [this]
      exact wrap_ok (oku (by omega) (by omega))
    rw [e1, e2, shl_nb, shr_nb hx, or_nb, bv_nb, bv_nb]
    unfold rot
    congr 1
    have e3 : ((-(m : Int)) % 64).toNat = 64 - m := by omega
    rw [e3, BitVec.rotateRight_def, Nat.mod_eq_of_lt (by omega : 64 - m < 64), BitVec.or_comm]
    congr 2
    omega

/-! ## Theta, Rho, Pi, Chi -/

theorem xo_ok (a b : Int) : okI .u64 (xo a b) := by rw [xo_nb']; exact nb_ok _
def thetaR (z : Int → Int) (es : List Int) : List Int := tab 25 fun i => xo (xo (nth es i) (colG z es ((i % 5 : Nat) - 1))) (leftI (colG z es ((i % 5 : Nat) + 1)) 1)
theorem thetaR_eq {es : List Int} (h : ∀ e ∈ es, okI .u64 e) : thetaR (xo 0) es = thetaL es := by
  rw [← thetaG_0 h]
  refine tab_congr fun i _ => ?_
  rw [left_rot (by unfold colG; exact xo_ok _ _) (by decide) (by decide)]
  simp only [xo_nb', bv_nb]
  congr 1
  ac_rfl
theorem fn_R13Theta : FnOk Tryd.prog 126 Tryd.f126 := ⟨Tryd.func126, by kernel_rfl⟩
theorem run_R13Theta (f : Nat → Int) : callA (cfg [] [p_left]) false 3000 Tryd.f126 [L25 (tab 25 f)] (memG gdA) = .done (L25 (thetaR (xo 0) (tab 25 f))) Mem.empty := by kernel_rfl
def p_R13Theta := (126, gsum [.l .u64 25] (fun _ => []) T_Theta)
theorem ps_R13Theta : PSOk (cfg [] []) p_R13Theta.1 p_R13Theta.2 :=
  up (psok_e (C := cfg [] [p_left]) (cok (by simp) (by simp [ps_left])) rfl rfl fn_R13Theta rfl 3000 (fun fs => [L25 (tab 25 (fs 0))]) (fun _ => rfl) fun fs h _ =>
    ⟨_, run_R13Theta (fs 0), sat_same (by rw [show thetaR (xo 0) (tab 25 (fs 0)) = thetaL (tab 25 (fs 0)) from thetaR_eq h.1.2]; rfl)⟩)

def rhoR (es : List Int) : List Int := tab 25 fun i => leftI (nth es i) (sel offs (i : Int))
theorem offs_lt : ((List.range 25).all fun i => decide (0 ≤ sel offs (i : Int)) && decide (sel offs (i : Int) < 64)) = true := by kernel_rfl
theorem nth_ok {es : List Int} {i : Nat} (h : ∀ e ∈ es, okI .u64 e) : okI .u64 (nth es i) := sel_ok (i := (i : Int)) h
theorem rhoR_eq {es : List Int} (h : ∀ e ∈ es, okI .u64 e) : rhoR es = rhoL es := by
  refine tab_congr fun i hi => ?_
  have := List.all_eq_true.1 offs_lt i (List.mem_range.2 hi)
  simp only [Bool.and_eq_true, decide_eq_true_eq] at this
  exact left_rot (nth_ok h) this.1 this.2
theorem fn_R13Rho : FnOk Tryd.prog 125 Tryd.f125 := ⟨Tryd.func125, by kernel_rfl⟩
theorem run_R13Rho (f : Nat → Int) : callA (cfg [] [p_left, p_Offsets]) false 3000 Tryd.f125 [L25 (tab 25 f)] (memG gdA) = .done (L25 (rhoR (tab 25 f))) Mem.empty := by kernel_rfl
def p_R13Rho := (125, gsum [.l .u64 25] (fun _ => []) T_Rho)
theorem ps_R13Rho : PSOk (cfg [] []) p_R13Rho.1 p_R13Rho.2 :=
  up (psok_e (C := cfg [] [p_left, p_Offsets]) (cok (by simp) (by simp [ps_left, ps_Offsets])) rfl rfl fn_R13Rho rfl 3000 (fun fs => [L25 (tab 25 (fs 0))]) (fun _ => rfl) fun fs h _ =>
    ⟨_, run_R13Rho (fs 0), sat_same (by rw [show rhoR (tab 25 (fs 0)) = rhoL (tab 25 (fs 0)) from rhoR_eq h.1.2]; rfl)⟩)

theorem fn_R13Pi : FnOk Tryd.prog 124 Tryd.f124 := ⟨Tryd.func124, by kernel_rfl⟩
theorem run_R13Pi (f : Nat → Int) : callA (cfg [] [p_RPi]) false 3000 Tryd.f124 [L25 (tab 25 f)] (memG gdA) = .done (L25 (piL (tab 25 f))) Mem.empty := by kernel_rfl
def p_R13Pi := (124, gsum [.l .u64 25] (fun _ => []) T_Pi)
theorem ps_R13Pi : PSOk (cfg [] []) p_R13Pi.1 p_R13Pi.2 :=
  up (psok_e (C := cfg [] [p_RPi]) (cok (by simp) (by simp [ps_RPi])) rfl rfl fn_R13Pi rfl 3000 (fun fs => [L25 (tab 25 (fs 0))]) (fun _ => rfl) fun fs _ _ =>
    ⟨_, run_R13Pi (fs 0), sat_same rfl⟩)

def chiR13 (es : List Int) : List Int := tab 25 fun i => xo (nth es i) (binI .and .u64 (binI .xor .u64 18446744073709551615 (nth es (5 * (i / 5) + (i % 5 + 1) % 5))) (nth es (5 * (i / 5) + (i % 5 + 2) % 5)))
theorem and_not (b c : Int) : binI .and .u64 (binI .xor .u64 18446744073709551615 b) c = binI .andNot .u64 c b := by
  rw [xor_nb, and_nb, andNot_nb, bv_nb]
  congr 1
  have e : bv 18446744073709551615 = BitVec.allOnes 64 := by decide
  rw [e, BitVec.allOnes_xor, BitVec.and_comm]
theorem chiR13_eq (es : List Int) : chiR13 es = chiL es := tab_congr fun i _ => by rw [and_not]
theorem fn_R13Chi : FnOk Tryd.prog 123 Tryd.f123 := ⟨Tryd.func123, by kernel_rfl⟩
theorem run_R13Chi (f : Nat → Int) : callA (cfg [] []) false 3000 Tryd.f123 [L25 (tab 25 f)] (memG gdA) = .done (L25 (chiR13 (tab 25 f))) Mem.empty := by kernel_rfl
def p_R13Chi := (123, gsum [.l .u64 25] (fun _ => []) T_Chi)
theorem ps_R13Chi : PSOk (cfg [] []) p_R13Chi.1 p_R13Chi.2 :=
  up (psok_e (C := cfg [] []) (cok (by simp) (by simp)) rfl rfl fn_R13Chi rfl 3000 (fun fs => [L25 (tab 25 (fs 0))]) (fun _ => rfl) fun fs _ _ =>
    ⟨_, run_R13Chi (fs 0), sat_same (by rw [chiR13_eq]; rfl)⟩)

/-! ## The constants, and the round -/

theorem fn_R13con : FnOk Tryd.prog 127 Tryd.f127 := ⟨Tryd.func127, by kernel_rfl⟩
theorem run_R13con (r : Int) : callA (cfg [] []) false 1000 Tryd.f127 [.one (.si .i64 r)] (memG gdA) =
    .br (decide (r < 0)) (.done (.one (.li .u64 0)) Mem.empty) (.br (decide (r > 23)) (.done (.one (.li .u64 0)) Mem.empty) (.need (0 ≤ r) (.need (r < 24) (.need (0 ≤ r) (.need (r < 24) (.done (.one (.si .u64 (sel rcs r))) Mem.empty)))))) := by kernel_rfl
def p_R13con := (127, gsum [.w .i64] (fun _ => []) T_Constant)
theorem ps_R13con : PSOk (cfg [] []) p_R13con.1 p_R13con.2 :=
  psok_e (cok (by simp) (by simp)) rfl rfl fn_R13con rfl 1000 (fun fs => [.one (.si .i64 (fs 0 0))]) (fun _ => rfl) fun fs _ _ => by
    refine ⟨_, run_R13con (fs 0 0), ?_⟩
    have e : one (tabs [.w .i64] 0 fs) 0 = fs 0 0 := rfl
    refine ⟨fun h => ⟨rfl, fun v hv => ?_⟩, fun h => ⟨fun h2 => ⟨rfl, fun v hv => ?_⟩, fun h2 => ?_⟩⟩
    · have h := of_decide_eq_true h
      have : rcI (fs 0 0) = 0 := if_neg (by omega)
      simp only [T_Constant, e, this]
      exact hv
    · have h2 := of_decide_eq_true h2
      have : rcI (fs 0 0) = 0 := if_neg (by omega)
      simp only [T_Constant, e, this]
      exact hv
    · have h := of_decide_eq_false h
      have h2 := of_decide_eq_false h2
      have : rcI (fs 0 0) = sel rcs (fs 0 0) := if_pos (by omega)
      refine ⟨by omega, by omega, by omega, by omega, sat_same ?_⟩
      simp only [T_Constant, e, this]
      rfl

def roundL (es : List Int) (r : Int) : List Int := iotaL (chiL (piL (rhoL (thetaL es)))) r
def T_Round : List (List Int) → GR := fun l => .p (.l .u64 (roundL (row0 l) (one l 1)))
theorem fn_R13Round : FnOk Tryd.prog 110 Tryd.f110 := ⟨Tryd.func110, by kernel_rfl⟩
theorem run_R13Round (f : Nat → Int) (r : Int) : callA (cfg [] [p_R13Theta, p_R13Rho, p_R13Pi, p_R13Chi, p_R13con]) false 3000 Tryd.f110 [L25 (tab 25 f), .one (.si .i64 r)] (memG gdA) = .done (L25 (roundL (tab 25 f) r)) Mem.empty := by kernel_rfl
def p_R13Round := (110, gsum [.l .u64 25, .w .i64] (fun _ => []) T_Round)
theorem ps_R13Round : PSOk (cfg [] []) p_R13Round.1 p_R13Round.2 :=
  up (psok_e (C := cfg [] [p_R13Theta, p_R13Rho, p_R13Pi, p_R13Chi, p_R13con]) (cok (by simp) (by simp [ps_R13Theta, ps_R13Rho, ps_R13Pi, ps_R13Chi, ps_R13con])) rfl rfl fn_R13Round rfl 3000 (fun fs => [L25 (tab 25 (fs 0)), .one (.si .i64 (fs 1 0))]) (fun _ => rfl) fun fs _ _ =>
    ⟨_, run_R13Round (fs 0) (fs 1 0), sat_same rfl⟩)

end Go.Proofs.YtnghpimihklmdaaDoor

