/- Words turned: long.Turn and its kin. -/
import Derived.Test.YtpnikmkijedmbaaDoorSa3
import Derived.Test.YtpnikmkijedmbaaDoorBv
namespace Go.Proofs.YtpnikmkijedmbaaDoor
open Go Go.Ax

theorem and63_i64 (n : Int) : binI .and .i64 n 63 = n % 64 := by
  show IntKind.i64.wrap ((BitVec.ofInt 64 n &&& BitVec.ofInt 64 63).toNat : Int) = _
  have e : (BitVec.ofInt 64 n &&& BitVec.ofInt 64 63).toNat = (n % 64).toNat := by
    rw [BitVec.toNat_and, show (BitVec.ofInt 64 63).toNat = 2 ^ 6 - 1 from by decide, Nat.and_two_pow_sub_one_eq_mod, BitVec.toNat_ofInt]
    omega
  rw [e]
  have : ((n % 64).toNat : Int) = n % 64 := by omega
  rw [this]
  exact wrap_ok (ok64 (by omega) (by omega))

theorem and63_u64 (n : Int) : binI .and .u64 n 63 = n % 64 := by
  show IntKind.u64.wrap ((BitVec.ofInt 64 n &&& BitVec.ofInt 64 63).toNat : Int) = _
  have e : (BitVec.ofInt 64 n &&& BitVec.ofInt 64 63).toNat = (n % 64).toNat := by
    rw [BitVec.toNat_and, show (BitVec.ofInt 64 63).toNat = 2 ^ 6 - 1 from by decide, Nat.and_two_pow_sub_one_eq_mod, BitVec.toNat_ofInt]
    omega
  rw [e]
  have : ((n % 64).toNat : Int) = n % 64 := by omega
  rw [this]
  exact wrap_ok (u64_ok (by omega) (by omega))

/-- A word turned to the right; by a number below nought, to the left. -/
def rot (x n : Int) : Int := nb ((bv x).rotateRight (n % 64).toNat)

theorem turn_eq {x n : Int} (hx : okI .u64 x) :
    binI .or .u64 (binI .shl .u64 x (binI .and .u64 (IntKind.u64.wrap (unI .neg .i64 (binI .and .i64 n 63))) 63)) (binI .shr .u64 x (binI .sub .u64 64 (binI .and .u64 (IntKind.u64.wrap (unI .neg .i64 (binI .and .i64 n 63))) 63))) = rot x n := by
  rw [and63_i64]
  have e1 : unI .neg .i64 (n % 64) = -(n % 64) := by
    show IntKind.i64.wrap (0 - n % 64) = _
    rw [wrap_ok (ok64 (by omega) (by omega))]; omega
  have e2 : binI .and .u64 (IntKind.u64.wrap (-(n % 64))) 63 = (-(n % 64)) % 64 := by
    rw [and63_u64]
    simp only [IntKind.wrap, IntKind.bits, IntKind.signed, Bool.false_and, Bool.false_eq_true, if_false]
    omega
  rw [e1, e2]
  have hm := Int.emod_nonneg n (show (64 : Int) ≠ 0 by decide)
  have hm2 := Int.emod_lt_of_pos n (show (0 : Int) < 64 by decide)
  have e3 : binI .sub .u64 64 ((-(n % 64)) % 64) = 64 - (-(n % 64)) % 64 := by
    show IntKind.u64.wrap _ = _
    exact wrap_ok (u64_ok (by omega) (by omega))
  rw [e3]
  unfold rot
  rw [BitVec.rotateRight_def]
  by_cases h : n % 64 = 0
  · rw [h]
    have s1 : (-(0 : Int)) % 64 = ((0 : Nat) : Int) := by decide
    have s2 : (64 : Int) - ((0 : Nat) : Int) = ((64 : Nat) : Int) := by decide
    rw [s1, s2, shl_nb, shr_nb hx, or_nb, bv_nb, bv_nb]
    congr 1
    simp [BitVec.shiftLeft_eq_zero, BitVec.ushiftRight_eq_zero]
  · obtain ⟨m, hmn⟩ : ∃ m : Nat, n % 64 = (m : Int) := ⟨(n % 64).toNat, by omega⟩
    have hm3 : 0 < m ∧ m < 64 := by omega
    rw [hmn]
    have s1 : (-(m : Int)) % 64 = ((64 - m : Nat) : Int) := by omega
    have s2 : (64 : Int) - ((64 - m : Nat) : Int) = (m : Int) := by omega
    rw [s1, s2, shl_nb, shr_nb hx, or_nb, bv_nb, bv_nb]
    congr 1
    rw [Int.toNat_natCast, Nat.mod_eq_of_lt hm3.2, BitVec.or_comm]

def T_Turn : List (List Int) → GR := fun l => .p (.w .u64 (rot (one l 0) (one l 1)))
def p_Turn := (46, gsum [.w .u64, .w .i64] (fun _ => []) T_Turn)
theorem fn_Rot : FnOk Tryd.prog 58 Tryd.f58 := ⟨Tryd.func58, by kernel_rfl⟩
theorem fn_Turn : FnOk Tryd.prog 46 Tryd.f46 := ⟨Tryd.func46, by kernel_rfl⟩
noncomputable def c_Turn := cfg [(58, Tryd.f58)] []
theorem run_Turn (x n : Int) : callA c_Turn false 1000 Tryd.f46 [.one (.si .u64 x), .one (.si .i64 n)] (memG gdA) = .done (.one (.si .u64
    (binI .or .u64 (binI .shl .u64 x (binI .and .u64 (IntKind.u64.wrap (unI .neg .i64 (binI .and .i64 n 63))) 63)) (binI .shr .u64 x (binI .sub .u64 64 (binI .and .u64 (IntKind.u64.wrap (unI .neg .i64 (binI .and .i64 n 63))) 63)))))) Mem.empty := by kernel_rfl
theorem ps_Turn : PSOk (cfg [] []) p_Turn.1 p_Turn.2 :=
  up (psok_e (C := c_Turn) (cok (by simp [fn_Rot]) (by simp)) rfl rfl fn_Turn rfl 1000 (fun fs => [.one (.si .u64 (fs 0 0)), .one (.si .i64 (fs 1 0))]) (fun _ => rfl) fun fs h _ =>
    ⟨_, run_Turn (fs 0 0) (fs 1 0), sat_same (by rw [turn_eq (h.1.2 _ (by simp [tab, Sh.len]))]; rfl)⟩)

/-! ## Theta, Rho, Iota -/

/-- The parity of a column. -/
def colI (es : List Int) (x : Int) : Int := xo (xo (xo (xo (sel es (atI x 0)) (sel es (atI x 1))) (sel es (atI x 2))) (sel es (atI x 3))) (sel es (atI x 4))
def T_Theta1 : List (List Int) → List Int → GR := fun l es => .p (.w .u64 (colI es (one l 0)))
def p_Theta1 := (45, gsumP [.w .i64] .u64 25 T_Theta1)
theorem fn_Theta1 : FnOk Tryd.prog 45 Tryd.f45 := ⟨Tryd.func45, by kernel_rfl⟩
def need4 (j : Int) (o : Out) : Out := .need (0 ≤ j) (.need (j < 25) (.need (0 ≤ j) (.need (j < 25) o)))
theorem run_Theta1 (x : Int) (f : Nat → Int) : callA (cfg [] [p_at]) false 1000 Tryd.f45 [.one (.si .i64 x), .one (.ptr 2 0)] (memP gdA .u64 (tab 25 f)) =
    need4 (atI x 0) (need4 (atI x 1) (need4 (atI x 2) (need4 (atI x 3) (need4 (atI x 4) (.done (.one (.si .u64 (colI (tab 25 f) x))) Mem.empty))))) := by kernel_rfl
theorem need4_sat {x y : Int} {o : Out} {K : AV → Mem → Prop} (h : o.sat K) : (need4 (atI x y) o).sat K :=
  have q := atI_range x y
  ⟨q.1, q.2, q.1, q.2, h⟩
theorem ps_Theta1 : PSOk (cfg [] []) p_Theta1.1 p_Theta1.2 :=
  up (psok_p (C := cfg [] [p_at]) (cok (by simp) (by simp [ps_at])) rfl rfl fn_Theta1 rfl 1000 (fun fs => [.one (.si .i64 (fs 0 0)), .one (.ptr 2 0)]) (fun _ => rfl) fun fs f _ _ =>
    ⟨_, run_Theta1 (fs 0 0) f, need4_sat (need4_sat (need4_sat (need4_sat (need4_sat (sat_same rfl)))))⟩)

def thetaL (es : List Int) : List Int := tab 25 fun i => xo (nth es i) (xo (colI es ((i % 5 : Nat) - 1)) (rot (colI es ((i % 5 : Nat) + 1)) (-1)))
def T_Theta : List (List Int) → GR := fun l => .p (.l .u64 (thetaL (row0 l)))
def p_Theta := (23, gsum [.l .u64 25] (fun _ => []) T_Theta)
theorem fn_Theta2 : FnOk Tryd.prog 47 Tryd.f47 := ⟨Tryd.func47, by kernel_rfl⟩
theorem fn_Theta : FnOk Tryd.prog 23 Tryd.f23 := ⟨Tryd.func23, by kernel_rfl⟩
noncomputable def c_Theta := cfg [(38, Tryd.f38), (47, Tryd.f47)] [p_at, p_Turn, p_Theta1]
theorem run_Theta (f : Nat → Int) : callA c_Theta false 1000 Tryd.f23 [L25 (tab 25 f)] (memG gdA) = .done (L25 (thetaL (tab 25 f))) Mem.empty := by kernel_rfl
theorem ps_Theta : PSOk (cfg [] []) p_Theta.1 p_Theta.2 :=
  up (psok_e (C := c_Theta) (cok (by simp [fn_each, fn_Theta2]) (by simp [ps_at, ps_Turn, ps_Theta1])) rfl rfl fn_Theta rfl 1000 (fun fs => [L25 (tab 25 (fs 0))]) (fun _ => rfl) fun fs _ _ => ⟨_, run_Theta (fs 0), sat_same rfl⟩)

def rhoL (es : List Int) : List Int := tab 25 fun i => rot (nth es i) (-(sel offs (i : Int)))
def T_Rho : List (List Int) → GR := fun l => .p (.l .u64 (rhoL (row0 l)))
def p_Rho := (24, gsum [.l .u64 25] (fun _ => []) T_Rho)
theorem fn_Rho1 : FnOk Tryd.prog 48 Tryd.f48 := ⟨Tryd.func48, by kernel_rfl⟩
theorem fn_Rho : FnOk Tryd.prog 24 Tryd.f24 := ⟨Tryd.func24, by kernel_rfl⟩
noncomputable def c_Rho := cfg [(38, Tryd.f38), (48, Tryd.f48)] [p_at, p_Turn, p_Offset]
theorem run_Rho (f : Nat → Int) : callA c_Rho false 1000 Tryd.f24 [L25 (tab 25 f)] (memG gdA) = .done (L25 (rhoL (tab 25 f))) Mem.empty := by kernel_rfl
theorem ps_Rho : PSOk (cfg [] []) p_Rho.1 p_Rho.2 :=
  up (psok_e (C := c_Rho) (cok (by simp [fn_each, fn_Rho1]) (by simp [ps_at, ps_Turn, ps_Offset])) rfl rfl fn_Rho rfl 1000 (fun fs => [L25 (tab 25 (fs 0))]) (fun _ => rfl) fun fs _ _ => ⟨_, run_Rho (fs 0), sat_same rfl⟩)

/-! ### Constant: by the round -/

def rcI (r : Int) : Int := if 0 ≤ r ∧ r < 24 then sel rcs r else 0
def T_Constant : List (List Int) → GR := fun l => .p (.w .u64 (rcI (one l 0)))
def p_Constant := (21, gsum [.w .i64] (fun _ => []) T_Constant)
theorem run_Constant (r : Int) : callA (cfg [] []) false 1000 Tryd.f21 [.one (.si .i64 r)] (memG gdA) =
    .br (decide (r < 0)) (.done (.one (.li .u64 0)) Mem.empty) (.br (decide (r ≥ 24)) (.done (.one (.li .u64 0)) Mem.empty) (.need (0 ≤ r) (.need (r < 24) (.need (0 ≤ r) (.need (r < 24) (.done (.one (.si .u64 (sel rcs r))) Mem.empty)))))) := by kernel_rfl
theorem ps_Constant : PSOk (cfg [] []) p_Constant.1 p_Constant.2 :=
  psok_e (cok (by simp) (by simp)) rfl rfl fn_Constant rfl 1000 (fun fs => [.one (.si .i64 (fs 0 0))]) (fun _ => rfl) fun fs _ _ => by
    refine ⟨_, run_Constant (fs 0 0), ?_⟩
    have e : one (tabs [.w .i64] 0 fs) 0 = fs 0 0 := rfl
    refine ⟨fun h => ⟨rfl, fun v hv => ?_⟩, fun h => ⟨fun h2 => ⟨rfl, fun v hv => ?_⟩, fun h2 => ?_⟩⟩
    · have h := of_decide_eq_true h
      have : rcI (fs 0 0) = 0 := if_neg (by omega)
      simp only [T_Constant, e, this]
      exact hv
    · have h2 := of_decide_eq_true h2
      have : rcI (fs 0 0) = 0 := if_neg (by omega)
      simp only [T_Constant, e, this]
      exact hv
    · have h := of_decide_eq_false h
      have h2 := of_decide_eq_false h2
      have : rcI (fs 0 0) = sel rcs (fs 0 0) := if_pos (by omega)
      refine ⟨by omega, by omega, by omega, by omega, sat_same ?_⟩
      simp only [T_Constant, e, this]
      rfl

def iotaL (es : List Int) (r : Int) : List Int := tab 25 fun i => match i with | 0 => xo (nth es 0) (rcI r) | i + 1 => nth es (i + 1)
def T_Iota : List (List Int) → GR := fun l => .p (.l .u64 (iotaL (row0 l) (one l 1)))
def p_Iota := (18, gsum [.l .u64 25, .w .i64] (fun _ => []) T_Iota)
theorem fn_Iota : FnOk Tryd.prog 18 Tryd.f18 := ⟨Tryd.func18, by kernel_rfl⟩
theorem run_Iota (f : Nat → Int) (r : Int) : callA (cfg [] [p_Constant]) false 1000 Tryd.f18 [L25 (tab 25 f), .one (.si .i64 r)] (memG gdA) = .done (L25 (iotaL (tab 25 f) r)) Mem.empty := by kernel_rfl
theorem ps_Iota : PSOk (cfg [] []) p_Iota.1 p_Iota.2 :=
  up (psok_e (C := cfg [] [p_Constant]) (cok (by simp) (by simp [ps_Constant])) rfl rfl fn_Iota rfl 1000 (fun fs => [L25 (tab 25 (fs 0)), .one (.si .i64 (fs 1 0))]) (fun _ => rfl) fun fs _ _ => ⟨_, run_Iota (fs 0) (fs 1 0), sat_same rfl⟩)

end Go.Proofs.YtpnikmkijedmbaaDoor
