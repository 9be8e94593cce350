/- Layer 04: math/bits.Div64 by a number of 31 bits; what is left over. -/
import Derived.Test.YtljchidgchjoeaaSb7
namespace Go.Proofs.Ytljchidgchjoeaa
open Go Go.Ax

section
variable (hi lo y s : Int)
def dY : Int := binI .shl .u64 y s
def dN1 : Int := binI .shr .u64 (dY y s) 32
def dN0 : Int := binI .and .u64 (dY y s) 4294967295
def dU32 : Int := binI .or .u64 (binI .shl .u64 hi s) (binI .shr .u64 lo (binI .sub .u64 64 s))
def dU10 : Int := binI .shl .u64 lo s
def dU1 : Int := binI .shr .u64 (dU10 lo s) 32
def dU0 : Int := binI .and .u64 (dU10 lo s) 4294967295
def dQ1 : Int := binI .quo .u64 (dU32 hi lo s) (dN1 y s)
def dR1 : Int := binI .sub .u64 (dU32 hi lo s) (binI .mul .u64 (dQ1 hi lo y s) (dN1 y s))
def dU21 : Int := binI .sub .u64 (binI .add .u64 (binI .mul .u64 (dU32 hi lo s) 4294967296) (dU1 lo s)) (binI .mul .u64 (dQ1 hi lo y s) (dY y s))
def dQ0 : Int := binI .quo .u64 (dU21 hi lo y s) (dN1 y s)
def dR0 : Int := binI .sub .u64 (dU21 hi lo y s) (binI .mul .u64 (dQ0 hi lo y s) (dN1 y s))
def dQuo : Int := binI .add .u64 (binI .mul .u64 (dQ1 hi lo y s) 4294967296) (dQ0 hi lo y s)
def dRem : Int := binI .shr .u64 (binI .sub .u64 (binI .add .u64 (binI .mul .u64 (dU21 hi lo y s) 4294967296) (dU0 lo s)) (binI .mul .u64 (dQ0 hi lo y s) (dY y s))) s
end
def lzU (y : Int) : Int := IntKind.u64.wrap (64 - ((lenN y.toNat : Nat) : Int))
theorem run_Div64 (hi lo y : Int) : callA (cfgS [] [p_LZ64] [(18, (15, [])), (25, (18, []))]) false 1000 Try.f44 [.one (.si .u64 hi), .one (.si .u64 lo), .one (.si .u64 y)] (memG gdB) =
    .br (cmpI .eql y 0) (.bad 3) (.br (cmpI .leq y hi) (.bad 3) (.br (cmpI .eql hi 0)
      (.need (y ≠ 0) (.need (y ≠ 0) (.done (.tup [.one (.si .u64 (binI .quo .u64 lo y)), .one (.si .u64 (binI .rem .u64 lo y))]) Mem.empty)))
      (.need (dN1 y (lzU y) ≠ 0) (.br (cmpI .geq (dQ1 hi lo y (lzU y)) 4294967296) (.bad 30) (.br (cmpI .gtr (binI .mul .u64 (dQ1 hi lo y (lzU y)) (dN0 y (lzU y))) (binI .add .u64 (binI .mul .u64 4294967296 (dR1 hi lo y (lzU y))) (dU1 lo (lzU y)))) (.bad 30)
        (.need (dN1 y (lzU y) ≠ 0) (.br (cmpI .geq (dQ0 hi lo y (lzU y)) 4294967296) (.bad 30) (.br (cmpI .gtr (binI .mul .u64 (dQ0 hi lo y (lzU y)) (dN0 y (lzU y))) (binI .add .u64 (binI .mul .u64 4294967296 (dR0 hi lo y (lzU y))) (dU0 lo (lzU y)))) (.bad 30)
          (.done (.tup [.one (.si .u64 (dQuo hi lo y (lzU y))), .one (.si .u64 (dRem hi lo y (lzU y)))]) Mem.empty)))))))))  := by kernel_rfl

/-! ## Numbers of 64 bits -/

theorem wrapN (n : Nat) : IntKind.u64.wrap (n : Int) = ((n % 18446744073709551616 : Nat) : Int) := by
  simp only [IntKind.wrap, IntKind.bits, IntKind.signed, Bool.false_and, Bool.false_eq_true, if_false]
  omega
theorem wrapI (n : Int) : IntKind.u64.wrap n = n % 18446744073709551616 := by
  simp only [IntKind.wrap, IntKind.bits, IntKind.signed, Bool.false_and, Bool.false_eq_true, if_false]
  omega
theorem mulN (a b : Nat) : binI .mul .u64 (a : Int) (b : Int) = ((a * b % 18446744073709551616 : Nat) : Int) := by
  show IntKind.u64.wrap ((a : Int) * b) = _
  rw [← Int.natCast_mul, wrapN]
theorem addN (a b : Nat) : binI .add .u64 (a : Int) (b : Int) = (((a + b) % 18446744073709551616 : Nat) : Int) := by
  show IntKind.u64.wrap ((a : Int) + b) = _
  rw [← Int.natCast_add, wrapN]
theorem subN {X Z : Nat} (h : Z ≤ X) (hlt : X - Z < 18446744073709551616) : binI .sub .u64 ((X % 18446744073709551616 : Nat) : Int) ((Z % 18446744073709551616 : Nat) : Int) = ((X - Z : Nat) : Int) := by
  show IntKind.u64.wrap (_ - _) = _
  rw [wrapI]
  omega
theorem quoN {a b : Nat} (h : a < 18446744073709551616) : binI .quo .u64 (a : Int) (b : Int) = ((a / b : Nat) : Int) := by
  show IntKind.u64.wrap ((a : Int).tdiv b) = _
  rw [Int.tdiv_eq_ediv_of_nonneg (by omega), ← Int.natCast_ediv, wrapN, Nat.mod_eq_of_lt]
  exact Nat.lt_of_le_of_lt (Nat.div_le_self a b) h
theorem shlN (a k : Nat) (hk : k < 64) : binI .shl .u64 (a : Int) (k : Int) = ((a * 2 ^ k % 18446744073709551616 : Nat) : Int) := by
  show IntKind.u64.wrap ((a : Int) * 2 ^ (min (k : Int).toNat IntKind.u64.bits)) = _
  simp only [Int.toNat_natCast, IntKind.bits]
  rw [Nat.min_eq_left (by omega), show ((2 : Int) ^ k) = ((2 ^ k : Nat) : Int) by simp, ← Int.natCast_mul, wrapN]
theorem and32 {x : Nat} (h : x < 18446744073709551616) : binI .and .u64 (x : Int) 4294967295 = ((x % 4294967296 : Nat) : Int) := by
  show IntKind.u64.wrap ((BitVec.ofInt 64 (x : Int) &&& BitVec.ofInt 64 4294967295).toNat : Int) = _
  have e : (BitVec.ofInt 64 (x : Int) &&& BitVec.ofInt 64 4294967295).toNat = x % 4294967296 := by
    rw [BitVec.toNat_and, show (BitVec.ofInt 64 4294967295).toNat = 2 ^ 32 - 1 from by decide, Nat.and_two_pow_sub_one_eq_mod, BitVec.ofInt_natCast, BitVec.toNat_ofNat]
    omega
  rw [e, wrapN, Nat.mod_eq_of_lt (by omega)]
theorem orN {a b k : Nat} (hb : b < 2 ^ k) (h : 2 ^ k * a + b < 18446744073709551616) : binI .or .u64 ((2 ^ k * a : Nat) : Int) (b : Int) = ((2 ^ k * a + b : Nat) : Int) := by
  show IntKind.u64.wrap ((BitVec.ofInt 64 ((2 ^ k * a : Nat) : Int) ||| BitVec.ofInt 64 (b : Int)).toNat : Int) = _
  rw [BitVec.ofInt_natCast, BitVec.ofInt_natCast, BitVec.toNat_or, BitVec.toNat_ofNat, BitVec.toNat_ofNat, Nat.mod_eq_of_lt (by omega), Nat.mod_eq_of_lt (by omega), ← Nat.two_pow_add_eq_or_of_lt hb a, wrapN, Nat.mod_eq_of_lt h]

/-! ## The division -/

theorem div_spec {hi lo y s : Nat} (hy : y < 2147483648) (hhi : hi < y) (hlo : lo < 18446744073709551616) (hs : 33 ≤ s ∧ s ≤ 63) (h1 : 9223372036854775808 ≤ y * 2 ^ s) (h2 : y * 2 ^ s < 18446744073709551616) :
    dN1 y s ≠ 0 ∧ dN0 (y : Int) s = 0 ∧ (∃ q : Nat, dQ1 hi lo y s = q ∧ q < 4294967296) ∧ (∃ q : Nat, dQ0 hi lo y s = q ∧ q < 4294967296) ∧ dRem hi lo y s = (((hi * 18446744073709551616 + lo) % y : Nat) : Int) := by
  obtain ⟨S, hS⟩ : ∃ S, S = 2 ^ s := ⟨_, rfl⟩
  have hSp : 0 < S := hS ▸ Nat.two_pow_pos s
  obtain ⟨S', hS'⟩ : ∃ S', S' = 2 ^ (s - 32) := ⟨_, rfl⟩
  have hSS : S = S' * 4294967296 := by rw [hS, hS', show (4294967296 : Nat) = 2 ^ 32 by decide, ← Nat.pow_add]; congr 1; omega
  obtain ⟨D, hD⟩ : ∃ D, D = 2 ^ (64 - s) := ⟨_, rfl⟩
  have hDS : D * S = 18446744073709551616 := by rw [hD, hS, ← Nat.pow_add, show 64 - s + s = 64 by omega]
  have hDp : 0 < D := hD ▸ Nat.two_pow_pos _
  rw [← hS] at h1 h2
  obtain ⟨n1, hn1⟩ : ∃ n1, n1 = y * S' := ⟨_, rfl⟩
  have hYn : y * S = n1 * 4294967296 := by rw [hSS, hn1, Nat.mul_assoc]
  have hn1p : 0 < n1 := by omega
  have hn1lt : n1 < 4294967296 := by omega
  -- the divisor
  have eY : dY (y : Int) s = ((y * S : Nat) : Int) := by unfold dY; rw [shlN y s (by omega), ← hS, Nat.mod_eq_of_lt h2]
  have eN1 : dN1 (y : Int) s = (n1 : Int) := by
    unfold dN1
    rw [eY]
    have := shrU_nat (x := y * S) (k := 32) (by decide)
    unfold shrU at this
    rw [show ((32 : Nat) : Int) = 32 from rfl] at this
    rw [this, hYn, show (2 : Nat) ^ 32 = 4294967296 by decide, Nat.mul_div_cancel _ (by decide)]
  have eN0 : dN0 (y : Int) s = 0 := by unfold dN0; rw [eY, and32 h2, hYn, Nat.mul_mod_left]; rfl
  -- the dividend
  have hA : hi * S + S ≤ y * S := by rw [← Nat.succ_mul]; exact Nat.mul_le_mul_right S hhi
  have hBlt : lo / D < S := by rw [Nat.div_lt_iff_lt_mul hDp, Nat.mul_comm, hDS]; exact hlo
  obtain ⟨u32, hu32⟩ : ∃ u, u = hi * S + lo / D := ⟨_, rfl⟩
  have e64s : binI .sub .u64 64 (s : Int) = ((64 - s : Nat) : Int) := by
    show IntKind.u64.wrap (64 - (s : Int)) = _
    rw [wrapI]; omega
  have eU32 : dU32 (hi : Int) lo s = (u32 : Int) := by
    unfold dU32
    rw [e64s, shlN hi s (by omega), ← hS, Nat.mod_eq_of_lt (by omega)]
    have e1 : binI .shr .u64 (lo : Int) ((64 - s : Nat) : Int) = ((lo / D : Nat) : Int) := by
      have := shrU_nat (x := lo) (k := 64 - s) (by omega)
      unfold shrU at this
      rw [this, ← hD]
    rw [e1, hu32, Nat.mul_comm hi S, hS]
    exact orN (by rw [← hS]; exact hBlt) (by rw [← hS, Nat.mul_comm S hi]; omega)
  obtain ⟨u10, hu10⟩ : ∃ u, u = lo * S % 18446744073709551616 := ⟨_, rfl⟩
  have eU10 : dU10 (lo : Int) s = (u10 : Int) := by unfold dU10; rw [shlN lo s (by omega), ← hS, hu10]
  have hloS : lo * S = lo / D * 18446744073709551616 + u10 := by
    have h := Nat.div_add_mod (lo * S) 18446744073709551616
    have e : lo * S / 18446744073709551616 = lo / D := by rw [← hDS]; exact Nat.mul_div_mul_right lo D hSp
    rw [e] at h
    rw [hu10]; omega
  have hu10lt : u10 < 18446744073709551616 := by rw [hu10]; exact Nat.mod_lt _ (by decide)
  have eU1 : dU1 (lo : Int) s = ((u10 / 4294967296 : Nat) : Int) := by
    unfold dU1
    rw [eU10]
    have := shrU_nat (x := u10) (k := 32) (by decide)
    unfold shrU at this
    rw [show ((32 : Nat) : Int) = 32 from rfl] at this
    rw [this]
  have eU0 : dU0 (lo : Int) s = ((u10 % 4294967296 : Nat) : Int) := by unfold dU0; rw [eU10, and32 hu10lt]
  -- the first digit
  have hu32lt : u32 < n1 * 4294967296 := by omega
  obtain ⟨q1, hq1⟩ : ∃ q, q = u32 / n1 := ⟨_, rfl⟩
  obtain ⟨r1, hr1⟩ : ∃ r, r = u32 % n1 := ⟨_, rfl⟩
  have eQ1 : dQ1 (hi : Int) lo y s = (q1 : Int) := by unfold dQ1; rw [eU32, eN1, quoN (by omega), hq1]
  have hq1lt : q1 < 4294967296 := by rw [hq1, Nat.div_lt_iff_lt_mul hn1p, Nat.mul_comm]; exact hu32lt
  obtain ⟨p1, hp1⟩ : ∃ p, p = q1 * n1 := ⟨_, rfl⟩
  have hu32s : u32 = p1 + r1 := by rw [hp1, hq1, hr1, Nat.mul_comm]; exact (Nat.div_add_mod u32 n1).symm
  have hr1lt : r1 < n1 := by rw [hr1]; exact Nat.mod_lt _ hn1p
  have hq1Y : q1 * (y * S) = p1 * 4294967296 := by rw [hYn, hp1, Nat.mul_assoc]
  obtain ⟨u21, hu21⟩ : ∃ u, u = r1 * 4294967296 + u10 / 4294967296 := ⟨_, rfl⟩
  have hu21lt : u21 < n1 * 4294967296 := by omega
  have eU21 : dU21 (hi : Int) lo y s = (u21 : Int) := by
    unfold dU21
    rw [eU32, eU1, eQ1, eY, show (4294967296 : Int) = ((4294967296 : Nat) : Int) from rfl, mulN, addN, mulN, hq1Y]
    have e1 : (u32 * 4294967296 % 18446744073709551616 + u10 / 4294967296) % 18446744073709551616 = (u32 * 4294967296 + u10 / 4294967296) % 18446744073709551616 := by omega
    rw [e1, subN (by omega) (by omega)]
    congr 1
    omega
  -- the second digit
  obtain ⟨q0, hq0⟩ : ∃ q, q = u21 / n1 := ⟨_, rfl⟩
  obtain ⟨r0, hr0⟩ : ∃ r, r = u21 % n1 := ⟨_, rfl⟩
  have eQ0 : dQ0 (hi : Int) lo y s = (q0 : Int) := by unfold dQ0; rw [eU21, eN1, quoN (by omega), hq0]
  have hq0lt : q0 < 4294967296 := by rw [hq0, Nat.div_lt_iff_lt_mul hn1p, Nat.mul_comm]; exact hu21lt
  obtain ⟨p0, hp0⟩ : ∃ p, p = q0 * n1 := ⟨_, rfl⟩
  have hu21s : u21 = p0 + r0 := by rw [hp0, hq0, hr0, Nat.mul_comm]; exact (Nat.div_add_mod u21 n1).symm
  have hr0lt : r0 < n1 := by rw [hr0]; exact Nat.mod_lt _ hn1p
  have hq0Y : q0 * (y * S) = p0 * 4294967296 := by rw [hYn, hp0, Nat.mul_assoc]
  -- what is left over
  have hU : (hi * 18446744073709551616 + lo) * S = (q1 * 4294967296 + q0) * (y * S) + (r0 * 4294967296 + u10 % 4294967296) := by
    have e1 : (q1 * 4294967296 + q0) * (y * S) = p1 * 18446744073709551616 + p0 * 4294967296 := by
      rw [Nat.add_mul, Nat.mul_right_comm, hq1Y, hq0Y]; omega
    have e2 : (hi * 18446744073709551616 + lo) * S = hi * S * 18446744073709551616 + lo * S := by rw [Nat.add_mul, Nat.mul_right_comm]
    rw [e1, e2, hloS]
    omega
  have hrem : r0 * 4294967296 + u10 % 4294967296 = (hi * 18446744073709551616 + lo) % y * S := by
    rw [← Nat.mul_mod_mul_right, hU, Nat.mul_comm (q1 * 4294967296 + q0), Nat.mul_add_mod, Nat.mod_eq_of_lt (a := r0 * 4294967296 + u10 % 4294967296) (b := y * S) (by omega)]
  refine ⟨by rw [eN1]; omega, eN0, ⟨q1, eQ1, hq1lt⟩, ⟨q0, eQ0, hq0lt⟩, ?_⟩
  unfold dRem
  rw [eU21, eU0, eQ0, eY, show (4294967296 : Int) = ((4294967296 : Nat) : Int) from rfl, mulN, addN, mulN, hq0Y]
  have e1 : (u21 * 4294967296 % 18446744073709551616 + u10 % 4294967296) % 18446744073709551616 = (u21 * 4294967296 + u10 % 4294967296) % 18446744073709551616 := by omega
  rw [e1, subN (by omega) (by omega)]
  have e2 : u21 * 4294967296 + u10 % 4294967296 - p0 * 4294967296 = (hi * 18446744073709551616 + lo) % y * S := by rw [← hrem]; omega
  rw [e2]
  have := shrU_nat (x := (hi * 18446744073709551616 + lo) % y * S) (k := s) (by omega)
  unfold shrU at this
  rw [this, ← hS, Nat.mul_div_cancel _ hSp]


/-! ## The summaries -/

def divQ (hi lo y : Int) : Int := iteI (cmpI .eql hi 0) (binI .quo .u64 lo y) (dQuo hi lo y (lzU y))
def T_Div : List (List Int) → GR := fun l => .t [.w .u64 (divQ (one l 0) (one l 1) (one l 2)), .w .u64 ((one l 0 * 18446744073709551616 + one l 1) % one l 2)]
def p_Div64 := (44, gsum [.w .u64, .w .u64, .w .u64] (fun l => [0 < one l 2, one l 2 < 2147483648, one l 0 < one l 2]) T_Div)
theorem lz_spec {y : Nat} (h0 : 0 < y) (h1 : y < 2147483648) : ∃ s : Nat, lzU y = s ∧ 33 ≤ s ∧ s ≤ 63 ∧ 9223372036854775808 ≤ y * 2 ^ s ∧ y * 2 ^ s < 18446744073709551616 := by
  have hb := lenN_bits y
  unfold bitsOf at hb
  rw [if_neg (by omega)] at hb
  obtain ⟨b1, b2, b3⟩ := hb
  have hL : lenN y ≤ 31 := by
    rcases Nat.lt_or_ge 31 (lenN y) with hc | hc
    · have := Nat.pow_le_pow_right (show 0 < 2 by decide) (show 31 ≤ lenN y - 1 by omega)
      have e : (2 : Nat) ^ 31 = 2147483648 := by decide
      omega
    · exact hc
  refine ⟨64 - lenN y, ?_, by omega, by omega, ?_, ?_⟩
  · unfold lzU
    rw [Int.toNat_natCast, show (64 : Int) - (lenN y : Nat) = ((64 - lenN y : Nat) : Int) by omega, wrapN, Nat.mod_eq_of_lt (by omega)]
  · have := Nat.mul_le_mul_right (2 ^ (64 - lenN y)) b2
    rw [← Nat.pow_add, show lenN y - 1 + (64 - lenN y) = 63 by omega] at this
    have e : (2 : Nat) ^ 63 = 9223372036854775808 := by decide
    omega
  · have := Nat.mul_lt_mul_of_pos_right b3 (Nat.two_pow_pos (64 - lenN y))
    rw [← Nat.pow_add, show lenN y + (64 - lenN y) = 64 by omega] at this
    have e : (2 : Nat) ^ 64 = 18446744073709551616 := by decide
    omega
theorem ps_Div64 : PSOk (cfgB [] [] []) p_Div64.1 p_Div64.2 :=
  (psok_e (C := cfgS [] [p_LZ64] [(18, (15, [])), (25, (18, []))]) (cokS (by simp) (by simp [ps_LZ64])) rfl rfl fn_Div64 rfl 1000 (fun fs => [.one (.si .u64 (fs 0 0)), .one (.si .u64 (fs 1 0)), .one (.si .u64 (fs 2 0))]) (fun _ => rfl) fun fs h hp => by
    have h1 : 0 ≤ fs 0 0 ∧ fs 0 0 ≤ 18446744073709551615 := one_ok h.1
    have h2 : 0 ≤ fs 1 0 ∧ fs 1 0 ≤ 18446744073709551615 := one_ok h.2.1
    have h3 : 0 ≤ fs 2 0 ∧ fs 2 0 ≤ 18446744073709551615 := one_ok h.2.2.1
    have p1 : 0 < fs 2 0 := hp.1
    have p2 : fs 2 0 < 2147483648 := hp.2.1
    have p3 : fs 0 0 < fs 2 0 := hp.2.2.1
    obtain ⟨hi, ehi⟩ := Int.eq_ofNat_of_zero_le h1.1
    obtain ⟨lo, elo⟩ := Int.eq_ofNat_of_zero_le h2.1
    obtain ⟨y, ey⟩ := Int.eq_ofNat_of_zero_le h3.1
    refine ⟨_, run_Div64 (fs 0 0) (fs 1 0) (fs 2 0), ?_⟩
    show Out.sat (fun v _ => v.flat = true ∧ ∀ val, v.R (fun _ => 0) 0 val → (GR.mk false (.t [.w .u64 (divQ (fs 0 0) (fs 1 0) (fs 2 0)), .w .u64 ((fs 0 0 * 18446744073709551616 + fs 1 0) % fs 2 0)])).R (fun _ => 0) 0 val) _
    rw [ehi, elo, ey]
    rw [ehi, ey] at p3
    rw [ey] at p1 p2
    rw [elo] at h2
    obtain ⟨s, es, s1, s2, s3, s4⟩ := lz_spec (y := y) (by omega) (by omega)
    obtain ⟨d1, d2, ⟨q, dq, dql⟩, ⟨q', dq', dql'⟩, dr⟩ := div_spec (hi := hi) (lo := lo) (y := y) (s := s) (by omega) (by omega) (by omega) ⟨s1, s2⟩ s3 s4
    have gz : ∀ (a : Nat) (x : Int), cmpI .gtr (binI .mul .u64 (a : Int) 0) (IntKind.u64.wrap x) = false := fun a x => by
      have e : binI .mul .u64 (a : Int) 0 = 0 := by show IntKind.u64.wrap (_ * 0) = 0; rw [Int.mul_zero]; rfl
      rw [e, wrapI]
      exact decide_eq_false (by omega)
    refine ⟨fun hc => ?_, fun _ => ⟨fun hc => ?_, fun _ => ⟨fun hc => ⟨by omega, by omega, sat_same ?_⟩, fun hc => ?_⟩⟩⟩
    · rw [eql_dec] at hc; have := of_decide_eq_true hc; omega
    · have := of_decide_eq_true hc; omega
    · rw [eql_dec] at hc
      have h0 := of_decide_eq_true hc
      have h0' : hi = 0 := by omega
      subst h0'
      show AV.tup [.one (.si .u64 _), .one (.si .u64 _)] = AV.tup [.one (.si .u64 (divQ _ _ _)), .one (.si .u64 _)]
      unfold divQ
      rw [show cmpI .eql ((0 : Nat) : Int) 0 = true from rfl]
      have er : binI .rem .u64 (lo : Int) (y : Int) = (((0 : Nat) : Int) * 18446744073709551616 + lo) % y := by
        show (lo : Int).tmod y = _
        rw [Int.tmod_eq_emod_of_nonneg (by omega)]
        congr 1
        omega
      rw [er]
      rfl
    · rw [es]
      have c1 : cmpI .geq (dQ1 (hi : Int) lo y s) 4294967296 = false := by rw [dq]; exact decide_eq_false (by omega)
      have c2 : cmpI .geq (dQ0 (hi : Int) lo y s) 4294967296 = false := by rw [dq']; exact decide_eq_false (by omega)
      refine ⟨d1, fun h => by (rw [c1] at h; cases h), fun _ => ⟨fun h => ?_, fun _ => ⟨d1, fun h => by (rw [c2] at h; cases h), fun _ => ⟨fun h => ?_, fun _ => sat_same ?_⟩⟩⟩⟩
      · rw [d2, dq] at h; rw [show cmpI .gtr (binI .mul .u64 (q : Int) 0) (binI .add .u64 (binI .mul .u64 4294967296 (dR1 (hi : Int) lo y s)) (dU1 (lo : Int) s)) = false from gz q _] at h; cases h
      · rw [d2, dq'] at h; rw [show cmpI .gtr (binI .mul .u64 (q' : Int) 0) (binI .add .u64 (binI .mul .u64 4294967296 (dR0 (hi : Int) lo y s)) (dU0 (lo : Int) s)) = false from gz q' _] at h; cases h
      · show AV.tup [.one (.si .u64 _), .one (.si .u64 _)] = AV.tup [.one (.si .u64 (divQ _ _ _)), .one (.si .u64 _)]
        unfold divQ
        rw [hc, es, dr]
        congr 1).cast rfl rfl rfl

end Go.Proofs.Ytljchidgchjoeaa
