/- Layer 04: what is left over, the program's (math/bits.Div64). -/
import Derived.Test.YtljchidgchjoeaaSb6
namespace Go.Proofs.Ytljchidgchjoeaa
open Go Go.Ax

theorem fn_Len64 : FnOk Try.prog 52 Try.f52 := ⟨Try.func52, by kernel_rfl⟩
theorem fn_LZ64 : FnOk Try.prog 50 Try.f50 := ⟨Try.func50, by kernel_rfl⟩
theorem fn_Div64 : FnOk Try.prog 44 Try.f44 := ⟨Try.func44, by kernel_rfl⟩
noncomputable def cfgS (fns : List (Nat × Func)) (ps : List (Nat × (List AV → Mem → Option (List Prop × AV)))) (sp : List (Nat × Nat × List Int)) : Cfg := { P := Try.prog, fns := fns, gl := glFrom 0 gdB, gd := gdB, ps := ps, sp := sp }
theorem cokS {fns : List (Nat × Func)} {ps : List (Nat × (List AV → Mem → Option (List Prop × AV)))} {sp : List (Nat × Nat × List Int)} (h1 : ∀ p ∈ fns, FnOk Try.prog p.1 p.2) (h2 : ∀ p ∈ ps, PSOk (cfgB [] [] []) p.1 p.2) : COk (cfgS fns ps sp) :=
  ⟨mixedB, h1, fun p hp => (h2 p hp).cast rfl rfl rfl, (fun p hp => by cases hp), (fun p hp => by cases hp), (fun p hp => by cases hp), (fun p hp => by cases hp), (fun p hp => by cases hp)⟩

/-! ## How many bits a word has -/

def len8 : List Int := [0, 1, 2, 2, 3, 3, 3, 3, 4, 4, 4, 4, 4, 4, 4, 4, 5, 5, 5, 5, 5, 5, 5, 5, 5, 5, 5, 5, 5, 5, 5, 5, 6, 6, 6, 6, 6, 6, 6, 6, 6, 6, 6, 6, 6, 6, 6, 6, 6, 6, 6, 6, 6, 6, 6, 6, 6, 6, 6, 6, 6, 6, 6, 6, 7, 7, 7, 7, 7, 7, 7, 7, 7, 7, 7, 7, 7, 7, 7, 7, 7, 7, 7, 7, 7, 7, 7, 7, 7, 7, 7, 7, 7, 7, 7, 7, 7, 7, 7, 7, 7, 7, 7, 7, 7, 7, 7, 7, 7, 7, 7, 7, 7, 7, 7, 7, 7, 7, 7, 7, 7, 7, 7, 7, 7, 7, 7, 7, 8, 8, 8, 8, 8, 8, 8, 8, 8, 8, 8, 8, 8, 8, 8, 8, 8, 8, 8, 8, 8, 8, 8, 8, 8, 8, 8, 8, 8, 8, 8, 8, 8, 8, 8, 8, 8, 8, 8, 8, 8, 8, 8, 8, 8, 8, 8, 8, 8, 8, 8, 8, 8, 8, 8, 8, 8, 8, 8, 8, 8, 8, 8, 8, 8, 8, 8, 8, 8, 8, 8, 8, 8, 8, 8, 8, 8, 8, 8, 8, 8, 8, 8, 8, 8, 8, 8, 8, 8, 8, 8, 8, 8, 8, 8, 8, 8, 8, 8, 8, 8, 8, 8, 8, 8, 8, 8, 8, 8, 8, 8, 8, 8, 8, 8, 8, 8, 8, 8, 8, 8, 8, 8, 8, 8, 8, 8, 8]
def shrU (x k : Int) : Int := binI .shr .u64 x k
def lenLeaf (x n : Int) : Out := .need (0 ≤ IntKind.u8.wrap x) (.need (IntKind.u8.wrap x < 256) (.done (.one (.si .i64 (binI .add .i64 n (IntKind.i64.wrap (sel len8 (IntKind.u8.wrap x)))))) Mem.empty))
def lenB (x n : Int) : Out := .br (cmpI .geq x 256) (lenLeaf (shrU x 8) (binI .add .i64 n 8)) (lenLeaf x n)
def lenA (x n : Int) : Out := .br (cmpI .geq x 65536) (lenB (shrU x 16) (binI .add .i64 n 16)) (lenB x n)
theorem run_Len64 (x : Int) : callA (cfgB [] [] []) false 1000 Try.f52 [.one (.si .u64 x)] (memG gdB) = .br (cmpI .geq x 4294967296) (lenA (shrU x 32) 32) (lenA x 0) := by kernel_rfl

/-- How many bits a number has. -/
def bitsOf (x L : Nat) : Prop := if x = 0 then L = 0 else 0 < L ∧ 2 ^ (L - 1) ≤ x ∧ x < 2 ^ L
theorem bitsOf_inj {x L M : Nat} (h1 : bitsOf x L) (h2 : bitsOf x M) : L = M := by
  unfold bitsOf at h1 h2
  split at h1
  · rename_i h0; rw [if_pos h0] at h2; omega
  · rename_i h0
    rw [if_neg h0] at h2
    rcases Nat.lt_trichotomy L M with h | h | h
    · have := Nat.pow_le_pow_right (show 0 < 2 by decide) (show L ≤ M - 1 by omega); omega
    · exact h
    · have := Nat.pow_le_pow_right (show 0 < 2 by decide) (show M ≤ L - 1 by omega); omega
theorem bitsOf_shift {x k L : Nat} (hx : 2 ^ k ≤ x) (h : bitsOf (x / 2 ^ k) L) : bitsOf x (L + k) := by
  have h0 : x / 2 ^ k ≠ 0 := by
    have : 0 < x / 2 ^ k := Nat.div_pos hx (Nat.two_pow_pos k)
    omega
  have hx0 : x ≠ 0 := by have := Nat.two_pow_pos k; omega
  unfold bitsOf at h ⊢
  rw [if_neg h0] at h
  rw [if_neg hx0]
  obtain ⟨h1, h2, h3⟩ := h
  refine ⟨by omega, ?_, ?_⟩
  · rw [show L + k - 1 = (L - 1) + k by omega, Nat.pow_add]
    exact (Nat.le_div_iff_mul_le (Nat.two_pow_pos k)).1 h2
  · rw [Nat.pow_add]
    exact (Nat.div_lt_iff_lt_mul (Nat.two_pow_pos k)).1 h3
def lenN (x : Nat) : Nat := if x = 0 then 0 else Nat.log2 x + 1
theorem lenN_bits (x : Nat) : bitsOf x (lenN x) := by
  unfold bitsOf lenN
  by_cases h : x = 0
  · simp [h]
  · rw [if_neg h, if_neg h]
    exact ⟨by omega, Nat.log2_self_le h, Nat.lt_log2_self⟩
theorem len8_all : ((List.range 256).all fun i => decide (sel len8 (i : Int) = (lenN i : Nat))) = true := by kernel_rfl
theorem len8_eq {x : Nat} (h : x < 256) : sel len8 (x : Int) = (lenN x : Nat) := of_decide_eq_true (List.all_eq_true.1 len8_all x (List.mem_range.2 h))
theorem lenN_shift {x k : Nat} (hx : 2 ^ k ≤ x) : lenN x = lenN (x / 2 ^ k) + k := bitsOf_inj (lenN_bits x) (bitsOf_shift hx (lenN_bits _))
theorem lenN_le {x : Nat} (h : x < 2 ^ 64) : lenN x ≤ 64 := by
  have := lenN_bits x
  unfold bitsOf at this
  split at this
  · omega
  · rcases Nat.lt_or_ge 64 (lenN x) with hc | hc
    · have := Nat.pow_le_pow_right (show 0 < 2 by decide) (show 64 ≤ lenN x - 1 by omega); omega
    · exact hc
theorem shrU_nat {x k : Nat} (hk : k < 64) : shrU (x : Int) (k : Int) = ((x / 2 ^ k : Nat) : Int) := by
  show (x : Int).fdiv (2 ^ (min (k : Int).toNat IntKind.u64.bits)) = _
  simp only [Int.toNat_natCast, IntKind.bits]
  rw [Nat.min_eq_left (by omega), Int.fdiv_eq_ediv_of_nonneg _ (Int.le_of_lt (Int.pow_pos (by decide)))]
  rw [show ((2 : Int) ^ k) = ((2 ^ k : Nat) : Int) by simp]
  exact (Int.natCast_ediv _ _).symm
def T_Len : List (List Int) → GR := fun l => .p (.w .i64 ((lenN (one l 0).toNat : Nat) : Int))
theorem u8_nat {x : Nat} (h : x < 256) : IntKind.u8.wrap (x : Int) = x := wrap_ok (by unfold okI; simp [IntKind.min, IntKind.max, IntKind.bits, IntKind.signed]; omega)
theorem lenLeaf_sat {x n N : Nat} (h : x < 256) (hn : n ≤ 64) (hN : N = n + lenN x) (hN2 : N ≤ 64) : (lenLeaf (x : Int) (n : Int)).sat fun v _ => v.flat = true ∧ ∀ val, v.R (fun _ => 0) 0 val → (GR.mk false (.p (.w .i64 (N : Int)))).R (fun _ => 0) 0 val := by
  unfold lenLeaf
  rw [u8_nat h, len8_eq h]
  refine ⟨by omega, by omega, sat_same ?_⟩
  show AV.one (.si .i64 _) = AV.one (.si .i64 _)
  have e1 : IntKind.i64.wrap ((lenN x : Nat) : Int) = (lenN x : Nat) := wrap_ok (ok64 (by omega) (by omega))
  rw [e1]
  show AV.one (.si .i64 (IntKind.i64.wrap _)) = _
  rw [wrap_ok (ok64 (by omega) (by omega)), hN]
  congr 2
theorem add64n {a b : Nat} (h : a + b ≤ 1000) : binI .add .i64 (a : Int) (b : Int) = ((a + b : Nat) : Int) := by
  show IntKind.i64.wrap _ = _
  rw [wrap_ok (ok64 (by omega) (by omega))]; omega
theorem geq_true {a b : Int} (h : cmpI .geq a b = true) : a ≥ b := of_decide_eq_true h
theorem geq_false {a b : Int} (h : cmpI .geq a b = false) : ¬ a ≥ b := of_decide_eq_false h
theorem lenB_sat {x n N : Nat} (h : x < 65536) (hn : n ≤ 48) (hN : N = n + lenN x) (hN2 : N ≤ 64) : (lenB (x : Int) (n : Int)).sat fun v _ => v.flat = true ∧ ∀ val, v.R (fun _ => 0) 0 val → (GR.mk false (.p (.w .i64 (N : Int)))).R (fun _ => 0) 0 val := by
  refine ⟨fun hc => ?_, fun hc => ?_⟩
  · have hc := geq_true hc
    have e := shrU_nat (x := x) (k := 8) (by decide)
    have e2 := add64n (a := n) (b := 8) (by omega)
    rw [show ((8 : Nat) : Int) = 8 from rfl] at e e2
    rw [e, e2]
    refine lenLeaf_sat (by omega) (by omega) ?_ hN2
    have := lenN_shift (x := x) (k := 8) (by omega)
    omega
  · have hc := geq_false hc
    exact lenLeaf_sat (by omega) (by omega) hN hN2
theorem lenA_sat {x n N : Nat} (h : x < 4294967296) (hn : n ≤ 32) (hN : N = n + lenN x) (hN2 : N ≤ 64) : (lenA (x : Int) (n : Int)).sat fun v _ => v.flat = true ∧ ∀ val, v.R (fun _ => 0) 0 val → (GR.mk false (.p (.w .i64 (N : Int)))).R (fun _ => 0) 0 val := by
  refine ⟨fun hc => ?_, fun hc => ?_⟩
  · have hc := geq_true hc
    have e := shrU_nat (x := x) (k := 16) (by decide)
    have e2 := add64n (a := n) (b := 16) (by omega)
    rw [show ((16 : Nat) : Int) = 16 from rfl] at e e2
    rw [e, e2]
    refine lenB_sat (by omega) (by omega) ?_ hN2
    have := lenN_shift (x := x) (k := 16) (by omega)
    omega
  · have hc := geq_false hc
    exact lenB_sat (by omega) (by omega) hN hN2
def p_Len64 := (52, gsum [.w .u64] (fun _ => []) T_Len)
theorem ps_Len64 : PSOk (cfgB [] [] []) p_Len64.1 p_Len64.2 :=
  psok_e (C := cfgB [] [] []) (cokB (by simp) (by simp) (by simp)) rfl rfl fn_Len64 rfl 1000 (fun fs => [.one (.si .u64 (fs 0 0))]) (fun _ => rfl) fun fs h _ => by
    have h1 : 0 ≤ fs 0 0 ∧ fs 0 0 ≤ 18446744073709551615 := one_ok h.1
    obtain ⟨x, hx⟩ := Int.eq_ofNat_of_zero_le h1.1
    have h2 : x < 2 ^ 64 := by have : (2 : Nat) ^ 64 = 18446744073709551616 := by decide
                               omega
    refine ⟨_, run_Len64 (fs 0 0), ?_⟩
    show Out.sat (fun v _ => v.flat = true ∧ ∀ val, v.R (fun _ => 0) 0 val → (GR.mk false (.p (.w .i64 ((lenN (fs 0 0).toNat : Nat) : Int)))).R (fun _ => 0) 0 val) _
    rw [hx, Int.toNat_natCast]
    have hl := lenN_le h2
    refine ⟨fun hc => ?_, fun hc => ?_⟩
    · have hc := geq_true hc
      have e := shrU_nat (x := x) (k := 32) (by decide)
      rw [show ((32 : Nat) : Int) = 32 from rfl] at e
      rw [e]
      refine lenA_sat (n := 32) (by omega) (by omega) ?_ hl
      have := lenN_shift (x := x) (k := 32) (by omega)
      omega
    · have hc := geq_false hc
      exact lenA_sat (n := 0) (by omega) (by omega) (by omega) hl
def T_LZ : List (List Int) → GR := fun l => .p (.w .i64 (64 - ((lenN (one l 0).toNat : Nat) : Int)))
def p_LZ64 := (50, gsum [.w .u64] (fun _ => []) T_LZ)
theorem run_LZ64 (x : Int) : callA (cfgB [] [p_Len64] []) false 1000 Try.f50 [.one (.si .u64 x)] (memG gdB) = .done (.one (.si .i64 (binI .sub .i64 64 ((lenN x.toNat : Nat) : Int)))) Mem.empty := by kernel_rfl
theorem ps_LZ64 : PSOk (cfgB [] [] []) p_LZ64.1 p_LZ64.2 :=
  upB (psok_e (C := cfgB [] [p_Len64] []) (cokB (by simp) (by simp [ps_Len64]) (by simp)) rfl rfl fn_LZ64 rfl 1000 (fun fs => [.one (.si .u64 (fs 0 0))]) (fun _ => rfl) fun fs h _ => by
    have h1 : 0 ≤ fs 0 0 ∧ fs 0 0 ≤ 18446744073709551615 := one_ok h.1
    refine ⟨_, run_LZ64 (fs 0 0), sat_same ?_⟩
    have hl := lenN_le (x := (fs 0 0).toNat) (by have : (2 : Nat) ^ 64 = 18446744073709551616 := by decide
                                                 omega)
    show AV.one (.si .i64 (IntKind.i64.wrap _)) = AV.one (.si .i64 (64 - _))
    rw [wrap_ok (ok64 (by omega) (by omega))]
    rfl)

end Go.Proofs.Ytljchidgchjoeaa
