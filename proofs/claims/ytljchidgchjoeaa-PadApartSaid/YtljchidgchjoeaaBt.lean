/- Words of 64 bits, bit by bit: as the document's reference takes them apart, and puts them together. -/
import Derived.Test.YtljchidgchjoeaaBv
import Derived.Test.YtljchidgchjoeaaAx12
namespace Go.Ax
open Go

def bI (b : Bool) : Int := match b with | true => 1 | false => 0
def halve : Nat → Int → Int
  | 0, x => x
  | i + 1, x => binI .quo .u64 (halve i x) 2
def bitsRaw (x : Int) : List Int := tab 64 fun i => IntKind.i64.wrap (binI .rem .u64 (halve i x) 2)
def bitsL (x : Int) : List Int := tab 64 fun i => bI ((bv x).getLsbD i)

theorem tab_congr {n : Nat} {f g : Nat → Int} (h : ∀ i, i < n → f i = g i) : tab n f = tab n g := List.map_congr_left fun i hi => h i (List.mem_range.1 hi)
theorem tab_get {n i : Nat} {f : Nat → Int} (h : i < n) : (tab n f).getD i 0 = f i := by simp [tab, h]

theorem ok64' {n : Int} (h1 : -9223372036854775808 ≤ n) (h2 : n ≤ 9223372036854775807) : okI .i64 n := by
  unfold okI; simp [IntKind.min, IntKind.max, IntKind.bits, IntKind.signed]; omega

theorem lsb_mod (y : BitVec 64) (i : Nat) : bI (y.getLsbD i) = (((y >>> i).toNat % 2 : Nat) : Int) := by
  rw [BitVec.toNat_ushiftRight, Nat.shiftRight_eq_div_pow]
  have : y.getLsbD i = decide (y.toNat / 2 ^ i % 2 = 1) := by
    unfold BitVec.getLsbD
    exact Nat.testBit_eq_decide_div_mod_eq
  rw [this]
  by_cases h : y.toNat / 2 ^ i % 2 = 1
  · rw [decide_eq_true h, h]; rfl
  · rw [decide_eq_false h]
    have : y.toNat / 2 ^ i % 2 = 0 := by omega
    rw [this]; rfl

theorem quo2 (z : BitVec 64) : binI .quo .u64 (nb z) 2 = nb (z >>> 1) := by
  have h := z.isLt
  show IntKind.u64.wrap ((nb z).tdiv 2) = _
  unfold nb
  rw [Int.tdiv_eq_ediv_of_nonneg (by omega), BitVec.toNat_ushiftRight, Nat.shiftRight_eq_div_pow]
  rw [show ((z.toNat : Int) / 2) = ((z.toNat / 2 ^ 1 : Nat) : Int) by omega]
  exact wrap_ok (u64_ok (by omega) (by omega))

theorem halve_nb {x : Int} (hx : okI .u64 x) : ∀ i, halve i x = nb (bv x >>> i)
  | 0 => by simp [halve, nb_bv hx]
  | i + 1 => by rw [halve, halve_nb hx i, quo2, BitVec.shiftRight_add]

theorem rem2 (z : BitVec 64) : binI .rem .u64 (nb z) 2 = ((z.toNat % 2 : Nat) : Int) := by
  show (nb z).tmod 2 = _
  unfold nb
  rw [Int.tmod_eq_emod_of_nonneg (by omega)]
  omega

theorem bits_eq {x : Int} (hx : okI .u64 x) : bitsRaw x = bitsL x :=
  tab_congr fun i _ => by
    rw [halve_nb hx, rem2, lsb_mod]
    exact wrap_ok (ok64' (by omega) (by omega))

/-- A word put together of bits. -/
def ofI (es : List Int) : Int := es.foldr (fun b x => binI .add .u64 (binI .mul .u64 2 x) (IntKind.u64.wrap b)) 0

theorem ofI_range (y : BitVec 64) : ∀ (n i : Nat), i + n = 64 → ofI ((List.range' i n).map fun j => bI (y.getLsbD j)) = nb (y >>> i)
  | 0, i, h => by
    have : i = 64 := by omega
    subst this
    have h0 : y >>> 64 = 0#64 := by
      apply BitVec.eq_of_toNat_eq
      rw [BitVec.toNat_ushiftRight, Nat.shiftRight_eq_div_pow]
      exact Nat.div_eq_of_lt y.isLt
    rw [h0]; rfl
  | n + 1, i, h => by
    have ih := ofI_range y n (i + 1) (by omega)
    rw [List.range'_succ, List.map_cons]
    show binI .add .u64 (binI .mul .u64 2 (ofI ((List.range' (i + 1) n).map fun j => bI (y.getLsbD j)))) (IntKind.u64.wrap (bI (y.getLsbD i))) = _
    rw [ih, lsb_mod]
    have hlt := (y >>> i).isLt
    have e : (y >>> (i + 1)).toNat = (y >>> i).toNat / 2 := by
      rw [BitVec.shiftRight_add, BitVec.toNat_ushiftRight (y >>> i), Nat.shiftRight_eq_div_pow]
    have e1 : binI .mul .u64 2 (nb (y >>> (i + 1))) = 2 * nb (y >>> (i + 1)) := wrap_ok (u64_ok (by unfold nb; omega) (by unfold nb; rw [e]; omega))
    have e2 : IntKind.u64.wrap ((((y >>> i).toNat % 2 : Nat) : Int)) = (((y >>> i).toNat % 2 : Nat) : Int) := wrap_ok (u64_ok (by omega) (by omega))
    rw [e1, e2]
    have e3 : binI .add .u64 (2 * nb (y >>> (i + 1))) (((y >>> i).toNat % 2 : Nat) : Int) = 2 * nb (y >>> (i + 1)) + (((y >>> i).toNat % 2 : Nat) : Int) :=
      wrap_ok (u64_ok (by unfold nb; omega) (by unfold nb; rw [e]; omega))
    rw [e3]
    unfold nb
    rw [e]
    omega

theorem of_bits (y : BitVec 64) : ofI (tab 64 fun i => bI (y.getLsbD i)) = nb y := by
  have := ofI_range y 64 0 rfl
  rw [← List.range_eq_range'] at this
  simpa [tab] using this

theorem add2 (a b : Bool) : binI .rem .i64 (binI .add .i64 (bI a) (bI b)) 2 = bI (a ^^ b) := by cases a <;> cases b <;> rfl

theorem xor_bits (x y : Int) : ofI (tab 64 fun i => binI .rem .i64 (binI .add .i64 ((bitsL x).getD i 0) ((bitsL y).getD i 0)) 2) = binI .xor .u64 x y := by
  rw [xor_nb, ← of_bits]
  congr 1
  refine tab_congr fun i hi => ?_
  rw [bitsL, bitsL, tab_get hi, tab_get hi, add2, BitVec.getLsbD_xor]

end Go.Ax
