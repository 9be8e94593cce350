/- Layer 12 (step): the five steps, as functions of lists of lanes. -/
import Derived.Test.YtpnikmkijedmbaaDoorSa2
namespace Go.Proofs.YtpnikmkijedmbaaDoor
open Go Go.Ax

/-- The lane at a place. -/
def nth (es : List Int) (i : Nat) : Int := es.getD i 0
def xo (a b : Int) : Int := binI .xor .u64 a b
def L25 (es : List Int) : AV := .agg (es.map (.si .u64))

def row0 (l : List (List Int)) : List Int := l.getD 0 []

/-! ## Pi -/

def piL (es : List Int) : List Int := tab 25 fun i => nth es ((i % 5 + 3 * (i / 5)) % 5 + 5 * (i % 5))
def T_Pi : List (List Int) → GR := fun l => .p (.l .u64 (piL (row0 l)))
def p_Pi := (16, gsum [.l .u64 25] (fun _ => []) T_Pi)
theorem fn_each : FnOk Tryd.prog 38 Tryd.f38 := ⟨Tryd.func38, by kernel_rfl⟩
theorem fn_Pi1 : FnOk Tryd.prog 39 Tryd.f39 := ⟨Tryd.func39, by kernel_rfl⟩
theorem fn_Pi : FnOk Tryd.prog 16 Tryd.f16 := ⟨Tryd.func16, by kernel_rfl⟩
noncomputable def c_Pi := cfg [(38, Tryd.f38), (39, Tryd.f39)] [p_at]
theorem run_Pi (f : Nat → Int) : callA c_Pi false 1000 Tryd.f16 [L25 (tab 25 f)] (memG gdA) = .done (L25 (piL (tab 25 f))) Mem.empty := by kernel_rfl
theorem ps_Pi : PSOk (cfg [] []) p_Pi.1 p_Pi.2 :=
  up (psok_e (C := c_Pi) (cok (by simp [fn_each, fn_Pi1]) (by simp [ps_at])) rfl rfl fn_Pi rfl 1000 (fun fs => [L25 (tab 25 (fs 0))]) (fun _ => rfl) fun fs _ _ => ⟨_, run_Pi (fs 0), sat_same rfl⟩)

/-! ## Chi -/

def chiL (es : List Int) : List Int := tab 25 fun i => xo (nth es i) (binI .andNot .u64 (nth es (5 * (i / 5) + (i % 5 + 2) % 5)) (nth es (5 * (i / 5) + (i % 5 + 1) % 5)))
def T_Chi : List (List Int) → GR := fun l => .p (.l .u64 (chiL (row0 l)))
def p_Chi := (17, gsum [.l .u64 25] (fun _ => []) T_Chi)
theorem fn_Chi1 : FnOk Tryd.prog 40 Tryd.f40 := ⟨Tryd.func40, by kernel_rfl⟩
theorem fn_Chi : FnOk Tryd.prog 17 Tryd.f17 := ⟨Tryd.func17, by kernel_rfl⟩
noncomputable def c_Chi := cfg [(38, Tryd.f38), (40, Tryd.f40)] [p_at]
theorem run_Chi (f : Nat → Int) : callA c_Chi false 1000 Tryd.f17 [L25 (tab 25 f)] (memG gdA) = .done (L25 (chiL (tab 25 f))) Mem.empty := by kernel_rfl
theorem ps_Chi : PSOk (cfg [] []) p_Chi.1 p_Chi.2 :=
  up (psok_e (C := c_Chi) (cok (by simp [fn_each, fn_Chi1]) (by simp [ps_at])) rfl rfl fn_Chi rfl 1000 (fun fs => [L25 (tab 25 (fs 0))]) (fun _ => rfl) fun fs _ _ => ⟨_, run_Chi (fs 0), sat_same rfl⟩)


end Go.Proofs.YtpnikmkijedmbaaDoor
