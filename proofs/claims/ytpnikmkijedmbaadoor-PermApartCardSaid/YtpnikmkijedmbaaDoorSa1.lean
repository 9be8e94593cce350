/- Layer 12 (step): the configuration; the functions of numbers: places, offsets, constants. -/
import Derived.Test.YtpnikmkijedmbaaDoorAx13
import Derived.Test.YtpnikmkijedmbaaDoorRows
namespace Go.Proofs.YtpnikmkijedmbaaDoor
open Go Go.Ax

def offs : List Int := [0, 1, 62, 28, 27, 36, 44, 6, 55, 20, 3, 10, 43, 25, 39, 41, 45, 15, 21, 8, 18, 2, 61, 56, 14]
def rcs : List Int := [1, 32898, 9223372036854808714, 9223372039002292224, 32907, 2147483649, 9223372039002292353, 9223372036854808585, 138, 136, 2147516425, 2147483658, 2147516555, 9223372036854775947, 9223372036854808713, 9223372036854808579, 9223372036854808578, 9223372036854775936, 32778, 9223372039002259466, 9223372039002292353, 9223372036854808704, 2147483649, 9223372039002292232]
def gdA : List (Nat × List SV) := [(0, offs.map (.li .i64)), (1, rcs.map (.li .u64))]

noncomputable def cfg (fns : List (Nat × Func)) (ps : List (Nat × (List AV → Mem → Option (List Prop × AV)))) : Cfg := { P := Tryd.prog, fns := fns, gl := glFrom 0 gdA, gd := gdA, ps := ps }

theorem mixedA : Tryd.prog.follows .mixedOrders = true := by kernel_rfl

theorem cok {fns : List (Nat × Func)} {ps : List (Nat × (List AV → Mem → Option (List Prop × AV)))} (h1 : ∀ p ∈ fns, FnOk Tryd.prog p.1 p.2) (h2 : ∀ p ∈ ps, PSOk (cfg [] []) p.1 p.2) : COk (cfg fns ps) :=
  ⟨mixedA, h1, fun p hp => (h2 p hp).cast rfl rfl rfl, fun p hp => by cases hp⟩

theorem up {fns : List (Nat × Func)} {ps : List (Nat × (List AV → Mem → Option (List Prop × AV)))} {g : Nat} {F : List AV → Mem → Option (List Prop × AV)} (h : PSOk (cfg fns ps) g F) : PSOk (cfg [] []) g F := h.cast rfl rfl rfl

noncomputable def cfgS (fns : List (Nat × Func)) (ps : List (Nat × (List AV → Mem → Option (List Prop × AV)))) (sp : List (Nat × Nat × List Int)) : Cfg := { P := Tryd.prog, fns := fns, gl := glFrom 0 gdA, gd := gdA, ps := ps, sp := sp }
theorem cokS {fns : List (Nat × Func)} {ps : List (Nat × (List AV → Mem → Option (List Prop × AV)))} {sp : List (Nat × Nat × List Int)} (h1 : ∀ p ∈ fns, FnOk Tryd.prog p.1 p.2) (h2 : ∀ p ∈ ps, PSOk (cfg [] []) p.1 p.2) : COk (cfgS fns ps sp) :=
  ⟨mixedA, h1, fun p hp => (h2 p hp).cast rfl rfl rfl, fun p hp => by cases hp⟩

/-! ## Numbers -/

theorem tmod_if (x : Int) {n : Int} : x.tmod n = if 0 ≤ x then x % n else -((-x) % n) := by
  split
  · exact Int.tmod_eq_emod_of_nonneg (by assumption)
  · have h : 0 ≤ -x := by omega
    have h1 := Int.tmod_eq_emod_of_nonneg (b := n) h
    rw [Int.neg_tmod] at h1
    omega

theorem tdiv_nn {x : Int} (n : Int) (h : 0 ≤ x) : x.tdiv n = x / n := Int.tdiv_eq_ediv_of_nonneg h

theorem ok64 {n : Int} (h1 : -9223372036854775808 ≤ n) (h2 : n ≤ 9223372036854775807) : okI .i64 n := by
  unfold okI; simp [IntKind.min, IntKind.max, IntKind.bits, IntKind.signed]; omega
theorem of_ok64 {n : Int} (h : okI .i64 n) : -9223372036854775808 ≤ n ∧ n ≤ 9223372036854775807 := by
  unfold okI at h; simp [IntKind.min, IntKind.max, IntKind.bits, IntKind.signed] at h; omega
theorem of_oku {n : Int} (h : okI .u64 n) : 0 ≤ n ∧ n ≤ 18446744073709551615 := by
  unfold okI at h; simp [IntKind.min, IntKind.max, IntKind.bits, IntKind.signed] at h; omega
theorem oku {n : Int} (h1 : 0 ≤ n) (h2 : n ≤ 18446744073709551615) : okI .u64 n := by
  unfold okI; simp [IntKind.min, IntKind.max, IntKind.bits, IntKind.signed]; omega

theorem add64 {a b : Int} (h1 : -9223372036854775808 ≤ a + b) (h2 : a + b ≤ 9223372036854775807) : binI .add .i64 a b = a + b := wrap_ok (ok64 h1 h2)
theorem sub64 {a b : Int} (h1 : -9223372036854775808 ≤ a - b) (h2 : a - b ≤ 9223372036854775807) : binI .sub .i64 a b = a - b := wrap_ok (ok64 h1 h2)
theorem mul64 {a b : Int} (h1 : -9223372036854775808 ≤ a * b) (h2 : a * b ≤ 9223372036854775807) : binI .mul .i64 a b = a * b := wrap_ok (ok64 h1 h2)
theorem rem64 {a b : Int} : binI .rem .i64 a b = a.tmod b := rfl

/-! ## at -/

def atI (x y : Int) : Int := x % 5 + 5 * (y % 5)

theorem at_eq (x y : Int) : binI .add .i64 (binI .rem .i64 (binI .add .i64 (binI .rem .i64 x 5) 5) 5) (binI .mul .i64 5 (binI .rem .i64 (binI .add .i64 (binI .rem .i64 y 5) 5) 5)) = atI x y := by
  have key : ∀ z : Int, binI .rem .i64 (binI .add .i64 (binI .rem .i64 z 5) 5) 5 = z % 5 := fun z => by
    rw [rem64, rem64, tmod_if z]
    have h : -4 ≤ (if 0 ≤ z then z % 5 else -(-z % 5)) ∧ (if 0 ≤ z then z % 5 else -(-z % 5)) ≤ 4 := by split <;> omega
    rw [add64 (by omega) (by omega), tmod_if]
    split <;> split <;> omega
  rw [key, key, mul64 (by omega) (by omega), add64 (by omega) (by omega)]
  rfl

def one (l : List (List Int)) (i : Nat) : Int := (l.getD i []).getD 0 0

def T_at : List (List Int) → GR := fun l => .p (.w .i64 (atI (one l 0) (one l 1)))
def p_at := (36, gsum [.w .i64, .w .i64] (fun _ => []) T_at)

theorem fn_at : FnOk Tryd.prog 36 Tryd.f36 := ⟨Tryd.func36, by kernel_rfl⟩

theorem run_at (x y : Int) : callA (cfg [] []) false 100 Tryd.f36 [.one (.si .i64 x), .one (.si .i64 y)] (memG gdA) =
    .done (.one (.si .i64 (binI .add .i64 (binI .rem .i64 (binI .add .i64 (binI .rem .i64 x 5) 5) 5) (binI .mul .i64 5 (binI .rem .i64 (binI .add .i64 (binI .rem .i64 y 5) 5) 5))))) Mem.empty := by kernel_rfl

theorem ps_at : PSOk (cfg [] []) p_at.1 p_at.2 :=
  psok_e (cok (by simp) (by simp)) rfl rfl fn_at rfl 100 (fun fs => [.one (.si .i64 (fs 0 0)), .one (.si .i64 (fs 1 0))]) (fun _ => rfl) fun fs _ _ => ⟨_, run_at (fs 0 0) (fs 1 0), sat_same (by rw [at_eq]; rfl)⟩

end Go.Proofs.YtpnikmkijedmbaaDoor
