/- The document's references: words, bit by bit (layer 2), and the steps (layer 12). -/
import Derived.Test.YtpnikmkijedmbaaDoorSa4
import Derived.Test.YtpnikmkijedmbaaDoorBt
namespace Go.Proofs.YtpnikmkijedmbaaDoor
open Go Go.Ax

def T_Bits : List (List Int) → GR := fun l => .p (.l .i64 (bitsL (one l 0)))
def p_Bits := (41, gsum [.w .u64] (fun _ => []) T_Bits)
theorem fn_Bits : FnOk Tryd.prog 41 Tryd.f41 := ⟨Tryd.func41, by kernel_rfl⟩
theorem run_Bits (x : Int) : callA (cfg [] []) false 3000 Tryd.f41 [.one (.si .u64 x)] (memG gdA) = .done (.agg ((bitsRaw x).map (.si .i64))) Mem.empty := by kernel_rfl
theorem ps_Bits : PSOk (cfg [] []) p_Bits.1 p_Bits.2 :=
  psok_e (cok (by simp) (by simp)) rfl rfl fn_Bits rfl 3000 (fun fs => [.one (.si .u64 (fs 0 0))]) (fun _ => rfl) fun fs h _ =>
    ⟨_, run_Bits (fs 0 0), sat_same (by rw [bits_eq (h.1.2 _ (by simp [tab, Sh.len]))]; rfl)⟩

def T_Of : List (List Int) → GR := fun l => .p (.w .u64 (ofI (row0 l)))
def p_Of := (42, gsum [.l .i64 64] (fun _ => []) T_Of)
theorem fn_Of : FnOk Tryd.prog 42 Tryd.f42 := ⟨Tryd.func42, by kernel_rfl⟩
theorem run_Of (f : Nat → Int) : callA (cfg [] []) false 3000 Tryd.f42 [.agg ((tab 64 f).map (.si .i64))] (memG gdA) = .done (.one (.si .u64 (ofI (tab 64 f)))) Mem.empty := by kernel_rfl
theorem ps_Of : PSOk (cfg [] []) p_Of.1 p_Of.2 :=
  psok_e (cok (by simp) (by simp)) rfl rfl fn_Of rfl 3000 (fun fs => [.agg ((tab 64 (fs 0)).map (.si .i64))]) (fun _ => rfl) fun fs _ _ => ⟨_, run_Of (fs 0), sat_same rfl⟩

def T_Xor : List (List Int) → GR := fun l => .p (.w .u64 (xo (one l 0) (one l 1)))
def p_Xor := (43, gsum [.w .u64, .w .u64] (fun _ => []) T_Xor)
theorem fn_Xor : FnOk Tryd.prog 43 Tryd.f43 := ⟨Tryd.func43, by kernel_rfl⟩
theorem run_Xor (x y : Int) : callA (cfg [] [p_Bits, p_Of]) false 3000 Tryd.f43 [.one (.si .u64 x), .one (.si .u64 y)] (memG gdA) =
    .done (.one (.si .u64 (ofI (tab 64 fun i => binI .rem .i64 (binI .add .i64 ((bitsL x).getD i 0) ((bitsL y).getD i 0)) 2)))) Mem.empty := by kernel_rfl
theorem ps_Xor : PSOk (cfg [] []) p_Xor.1 p_Xor.2 :=
  up (psok_e (C := cfg [] [p_Bits, p_Of]) (cok (by simp) (by simp [ps_Bits, ps_Of])) rfl rfl fn_Xor rfl 3000 (fun fs => [.one (.si .u64 (fs 0 0)), .one (.si .u64 (fs 1 0))]) (fun _ => rfl) fun fs _ _ =>
    ⟨_, run_Xor (fs 0 0) (fs 1 0), sat_same (by rw [xor_bits]; rfl)⟩)

/-! ## Turn -/

def turnJ (m : Int) (i : Nat) : Int := binI .rem .i64 (binI .add .i64 i m) 64
def needL : List Int → Out → Out
  | [], o => o
  | j :: js, o => .need (0 ≤ j) (.need (j < 64) (.need (0 ≤ j) (.need (j < 64) (needL js o))))
theorem needL_sat {K : AV → Mem → Prop} {o : Out} : ∀ {js : List Int}, (∀ j ∈ js, 0 ≤ j ∧ j < 64) → o.sat K → (needL js o).sat K
  | [], _, h => h
  | j :: js, hj, h => by
    have := hj j (List.mem_cons_self ..)
    exact ⟨this.1, this.2, this.1, this.2, needL_sat (fun j h => hj j (List.mem_cons_of_mem _ h)) h⟩
def turnOut (x m : Int) : Out := needL (tab 64 (turnJ m)) (.done (.one (.si .u64 (ofI (tab 64 fun i => sel (bitsL x) (turnJ m i))))) Mem.empty)
theorem fn_RTurn : FnOk Tryd.prog 49 Tryd.f49 := ⟨Tryd.func49, by kernel_rfl⟩
theorem run_RTurn (x n : Int) : callA (cfg [] [p_Bits, p_Of]) false 3000 Tryd.f49 [.one (.si .u64 x), .one (.si .i64 n)] (memG gdA) =
    .br (decide (binI .rem .i64 n 64 < 0)) (turnOut x (binI .add .i64 (binI .rem .i64 n 64) 64)) (turnOut x (binI .rem .i64 n 64)) := by kernel_rfl

theorem turnJ_eq {m : Int} (h1 : 0 ≤ m) (h2 : m < 64) {i : Nat} (hi : i < 64) : turnJ m i = ((i : Int) + m) % 64 := by
  unfold turnJ
  rw [add64 (by omega) (by omega), rem64, Int.tmod_eq_emod_of_nonneg (by omega)]
theorem turn_sat {x m : Int} (h1 : 0 ≤ m) (h2 : m < 64) {K : AV → Mem → Prop} (h : K (.one (.si .u64 (nb ((bv x).rotateRight m.toNat)))) Mem.empty) : (turnOut x m).sat K := by
  refine needL_sat (fun j hj => ?_) ?_
  · obtain ⟨i, hi, rfl⟩ := List.mem_map.1 hj
    rw [turnJ_eq h1 h2 (List.mem_range.1 hi)]
    omega
  · have e : (tab 64 fun i => sel (bitsL x) (turnJ m i)) = tab 64 fun i => bI (((bv x).rotateRight m.toNat).getLsbD i) := by
      refine tab_congr fun i hi => ?_
      rw [turnJ_eq h1 h2 hi, sel, bitsL, tab_get (by omega), BitVec.getLsbD_rotateRight]
      congr 1
      have hm : m.toNat % 64 = m.toNat := Nat.mod_eq_of_lt (by omega)
      rw [hm]
      by_cases hc : i < 64 - m.toNat
      · simp only [hc, decide_true, cond_true]
        congr 1
        omega
      · simp only [hc, decide_false, cond_false, hi, decide_true, Bool.true_and]
        congr 1
        omega
    show K (.one (.si .u64 (ofI (tab 64 fun i => sel (bitsL x) (turnJ m i))))) Mem.empty
    rw [e, of_bits]
    exact h

def T_RTurn : List (List Int) → GR := fun l => .p (.w .u64 (rot (one l 0) (one l 1)))
def p_RTurn := (49, gsum [.w .u64, .w .i64] (fun _ => []) T_RTurn)
theorem ps_RTurn : PSOk (cfg [] []) p_RTurn.1 p_RTurn.2 :=
  up (psok_e (C := cfg [] [p_Bits, p_Of]) (cok (by simp) (by simp [ps_Bits, ps_Of])) rfl rfl fn_RTurn rfl 3000 (fun fs => [.one (.si .u64 (fs 0 0)), .one (.si .i64 (fs 1 0))]) (fun _ => rfl) fun fs _ _ => by
    refine ⟨_, run_RTurn (fs 0 0) (fs 1 0), ?_⟩
    have key : ∀ n : Int, (binI .rem .i64 n 64 < 0 → binI .add .i64 (binI .rem .i64 n 64) 64 = n % 64) ∧ (¬ binI .rem .i64 n 64 < 0 → binI .rem .i64 n 64 = n % 64) := fun z => by
      rw [rem64, tmod_if]
      refine ⟨fun h => ?_, fun h => ?_⟩
      · rw [add64 (by split <;> omega) (by split <;> omega)]
        split at h <;> split <;> omega
      · split at h <;> split <;> omega
    refine ⟨fun h => ?_, fun h => ?_⟩
    · rw [(key _).1 (of_decide_eq_true h)]
      exact turn_sat (by omega) (by omega) (sat_same rfl)
    · rw [(key _).2 (of_decide_eq_false h)]
      exact turn_sat (by omega) (by omega) (sat_same rfl))

end Go.Proofs.YtpnikmkijedmbaaDoor
