/- Words of 64 bits: the executor's operations on integers, as operations on bit vectors. -/
import Derived.Test.YtljchidgchjoeaaAx3
namespace Go.Ax
open Go

def bv (x : Int) : BitVec 64 := BitVec.ofInt 64 x
def nb (x : BitVec 64) : Int := (x.toNat : Int)

theorem bv_nb (x : BitVec 64) : bv (nb x) = x := by unfold bv nb; simp

theorem u64_bounds {n : Int} (h : okI .u64 n) : 0 ≤ n ∧ n < 18446744073709551616 := by
  unfold okI at h; simp [IntKind.min, IntKind.max, IntKind.bits, IntKind.signed] at h; omega
theorem u64_ok {n : Int} (h1 : 0 ≤ n) (h2 : n < 18446744073709551616) : okI .u64 n := by
  unfold okI; simp [IntKind.min, IntKind.max, IntKind.bits, IntKind.signed]; omega

theorem nb_bv {n : Int} (h : okI .u64 n) : nb (bv n) = n := by
  obtain ⟨h1, h2⟩ := u64_bounds h
  unfold nb bv
  rw [BitVec.toNat_ofInt]
  have e : (n % ((2 ^ 64 : Nat) : Int)) = n := Int.emod_eq_of_lt h1 (by simpa using h2)
  rw [e]
  omega

theorem nb_ok (x : BitVec 64) : okI .u64 (nb x) := by
  have := x.isLt
  unfold nb
  exact u64_ok (by omega) (by omega)

theorem eq_of_bv {a b : Int} (ha : okI .u64 a) (hb : okI .u64 b) (h : bv a = bv b) : a = b := by rw [← nb_bv ha, ← nb_bv hb, h]

theorem wrap_nat (x : BitVec 64) : IntKind.u64.wrap (x.toNat : Int) = nb x := wrap_ok (nb_ok x)

theorem xor_nb (a b : Int) : binI .xor .u64 a b = nb (bv a ^^^ bv b) := wrap_nat (bv a ^^^ bv b)
theorem and_nb (a b : Int) : binI .and .u64 a b = nb (bv a &&& bv b) := wrap_nat (bv a &&& bv b)
theorem or_nb (a b : Int) : binI .or .u64 a b = nb (bv a ||| bv b) := wrap_nat (bv a ||| bv b)
theorem andNot_nb (a b : Int) : binI .andNot .u64 a b = nb (bv a &&& ~~~ bv b) := wrap_nat (bv a &&& ~~~ bv b)

theorem wrap_bv (n : Int) : IntKind.u64.wrap n = nb (bv n) := by
  unfold nb bv
  rw [BitVec.toNat_ofInt]
  simp only [IntKind.wrap, IntKind.bits, IntKind.signed, Bool.false_and, Bool.false_eq_true, if_false]
  have e : (2 : Int) ^ 64 = ((2 ^ 64 : Nat) : Int) := by decide
  rw [e]
  have : 0 ≤ n % ((2 ^ 64 : Nat) : Int) := Int.emod_nonneg _ (by decide)
  omega

theorem add_nb (a b : Int) : binI .add .u64 a b = nb (bv a + bv b) := by
  show IntKind.u64.wrap (a + b) = _
  rw [wrap_bv]; congr 1; unfold bv; exact BitVec.ofInt_add _ _
theorem sub_nb (a b : Int) : binI .sub .u64 a b = nb (bv a - bv b) := by
  show IntKind.u64.wrap (a - b) = _
  rw [wrap_bv]; congr 1; unfold bv
  rw [Int.sub_eq_add_neg, BitVec.ofInt_add, BitVec.ofInt_neg, BitVec.sub_eq_add_neg]
theorem mul_nb (a b : Int) : binI .mul .u64 a b = nb (bv a * bv b) := by
  show IntKind.u64.wrap (a * b) = _
  rw [wrap_bv]; congr 1; unfold bv; exact BitVec.ofInt_mul _ _

theorem not_nb (a : Int) : unI .xor .u64 a = nb (~~~ bv a) := by
  have h : bv (if IntKind.u64.signed then -1 else IntKind.u64.max) = BitVec.allOnes 64 := by decide
  have e : unI .xor .u64 a = binI .xor .u64 (if IntKind.u64.signed then -1 else IntKind.u64.max) a := rfl
  rw [e, xor_nb, h, BitVec.allOnes_xor]

theorem shl_nb (a : Int) {n : Nat} : binI .shl .u64 a (n : Int) = nb (bv a <<< n) := by
  show IntKind.u64.wrap (a * 2 ^ (min (n : Int).toNat IntKind.u64.bits)) = _
  rw [wrap_bv]
  congr 1
  simp only [Int.toNat_natCast, IntKind.bits]
  unfold bv
  rw [BitVec.ofInt_mul]
  have e : BitVec.ofInt 64 (2 ^ min n 64) = BitVec.ofNat 64 (2 ^ min n 64) := by
    have : ((2 : Int) ^ min n 64) = ((2 ^ min n 64 : Nat) : Int) := by simp
    rw [this, BitVec.ofInt_natCast]
  rw [e, BitVec.shiftLeft_eq_mul_twoPow]
  by_cases h : n < 64
  · rw [Nat.min_eq_left (by omega)]
    have e2 : BitVec.ofNat 64 (2 ^ n) = BitVec.twoPow 64 n := by
      apply BitVec.eq_of_toNat_eq
      simp [BitVec.toNat_twoPow]
    rw [e2]
  · rw [Nat.min_eq_right (by omega)]
    have e1 : BitVec.ofNat 64 (2 ^ 64) = 0#64 := by decide
    have e2 : BitVec.twoPow 64 n = 0#64 := by
      apply BitVec.eq_of_toNat_eq
      simp [BitVec.toNat_twoPow]
      exact Nat.mod_eq_zero_of_dvd (Nat.pow_dvd_pow 2 (by omega : 64 ≤ n))
    rw [e1, e2]

theorem shr_nb {a : Int} (ha : okI .u64 a) {n : Nat} : binI .shr .u64 a (n : Int) = nb (bv a >>> n) := by
  obtain ⟨h1, h2⟩ := u64_bounds ha
  show a.fdiv (2 ^ (min (n : Int).toNat IntKind.u64.bits)) = _
  simp only [Int.toNat_natCast, IntKind.bits]
  have hp : (0 : Int) < 2 ^ min n 64 := Int.pow_pos (by decide)
  rw [Int.fdiv_eq_ediv_of_nonneg _ (by omega)]
  unfold nb
  rw [BitVec.toNat_ushiftRight]
  have hb : ((bv a).toNat : Int) = a := nb_bv ha
  have hlt := (bv a).isLt
  rw [Nat.shiftRight_eq_div_pow]
  by_cases h : n < 64
  · rw [Nat.min_eq_left (by omega)]
    have e : (((bv a).toNat / 2 ^ n : Nat) : Int) = ((bv a).toNat : Int) / ((2 ^ n : Nat) : Int) := Int.natCast_ediv _ _
    rw [e, hb]
    simp
  · rw [Nat.min_eq_right (by omega)]
    have e1 : (bv a).toNat / 2 ^ n = 0 := Nat.div_eq_of_lt (Nat.lt_of_lt_of_le hlt (Nat.pow_le_pow_right (by decide) (by omega)))
    rw [e1]
    exact Int.ediv_eq_zero_of_lt h1 (by simpa using h2)

end Go.Ax
