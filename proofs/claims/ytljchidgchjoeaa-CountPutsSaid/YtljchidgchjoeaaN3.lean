/- Words and their bytes. -/
import Derived.Test.YtljchidgchjoeaaN2
namespace Go.Proofs.Ytljchidgchjoeaa
open Go Go.Ax
set_option linter.unusedSectionVars false
variable [JW]

/-- The number that n bytes are, the great end first. -/
def valN (b : Nat → Nat) : Nat → Nat
  | 0 => 0
  | n + 1 => valN b n * 256 + b n
theorem valN_lt {b : Nat → Nat} (hb : ∀ i, b i < 256) : ∀ n, valN b n < 256 ^ n
  | 0 => by simp [valN]
  | n + 1 => by
    have := valN_lt hb n
    have h2 := hb n
    rw [Nat.pow_succ]
    simp only [valN]
    omega
theorem or_step {x b : Nat} (hx : x < 72057594037927936) (hb : b < 256) : binI .or .u64 (binI .shl .u64 (x : Int) 8) (IntKind.u64.wrap (b : Int)) = ((x * 256 + b : Nat) : Int) := by
  have e1 : binI .shl .u64 (x : Int) 8 = ((x * 256 : Nat) : Int) := by
    show IntKind.u64.wrap ((x : Int) * 2 ^ (min (8 : Int).toNat 64)) = _
    rw [show (min (8 : Int).toNat 64) = 8 from rfl, wrap_ok (oku (by omega) (by omega))]
    omega
  have e2 : IntKind.u64.wrap (b : Int) = (b : Int) := wrap_ok (oku (by omega) (by omega))
  rw [e1, e2]
  show IntKind.u64.wrap ((BitVec.ofInt 64 ((x * 256 : Nat) : Int) ||| BitVec.ofInt 64 ((b : Nat) : Int)).toNat : Nat) = _
  have e3 : (BitVec.ofInt 64 ((x * 256 : Nat) : Int) ||| BitVec.ofInt 64 ((b : Nat) : Int)).toNat = x * 256 + b := by
    rw [BitVec.toNat_or, BitVec.ofInt_natCast, BitVec.ofInt_natCast, BitVec.toNat_ofNat, BitVec.toNat_ofNat, Nat.mod_eq_of_lt (by omega), Nat.mod_eq_of_lt (by omega), Nat.mul_comm]
    have := Nat.two_pow_add_eq_or_of_lt (b := b) (i := 8) hb x
    rw [show (2 : Nat) ^ 8 = 256 from rfl] at this
    exact this.symm
  rw [e3, wrap_ok (oku (by omega) (by omega))]
theorem fold_val {L : List Int} {o : Nat} {b : Nat → Nat} (hb : ∀ i, b i < 256) : ∀ n, n ≤ 8 → (∀ i, i < n → L.getD (o + i) 0 = ((b i : Nat) : Int)) → (List.range n).foldl (fun x j => binI .or .u64 (binI .shl .u64 x 8) (IntKind.u64.wrap (L.getD (o + j) 0))) 0 = ((valN b n : Nat) : Int)
  | 0, _, _ => rfl
  | n + 1, hn, hL => by
    rw [List.range_succ, List.foldl_append, fold_val hb n (by omega) fun i hi => hL i (by omega)]
    simp only [List.foldl_cons, List.foldl_nil]
    rw [hL n (by omega)]
    refine or_step ?_ (hb n)
    have h1 := valN_lt hb n
    have h2 : 256 ^ n ≤ 256 ^ 7 := Nat.pow_le_pow_right (by omega) (by omega)
    have : (256 : Nat) ^ 7 = 72057594037927936 := rfl
    omega
theorem wordAt_val {L : List Int} {o : Nat} {b : Nat → Nat} (hb : ∀ i, b i < 256) (hL : ∀ i, i < 8 → L.getD (o + i) 0 = ((b i : Nat) : Int)) : wordAt L o = ((valN b 8 : Nat) : Int) := fold_val hb 8 (Nat.le_refl _) hL
def shrU (x k : Int) : Int := binI .shr .u64 x k
theorem shrU_nat {x k : Nat} (hk : k < 64) : shrU (x : Int) (k : Int) = ((x / 2 ^ k : Nat) : Int) := by
  show (x : Int).fdiv (2 ^ (min (k : Int).toNat IntKind.u64.bits)) = _
  simp only [Int.toNat_natCast, IntKind.bits]
  rw [Nat.min_eq_left (by omega), Int.fdiv_eq_ediv_of_nonneg _ (Int.le_of_lt (Int.pow_pos (by decide)))]
  rw [show ((2 : Int) ^ k) = ((2 ^ k : Nat) : Int) by simp]
  exact (Int.natCast_ediv _ _).symm
theorem byteAt_eq {x i : Nat} (hi : i < 8) : byteAt (x : Int) i = ((x / 256 ^ i % 256 : Nat) : Int) := by
  unfold byteAt
  have e : binI .mul .i64 8 (i : Int) = ((8 * i : Nat) : Int) := by
    show IntKind.i64.wrap _ = _
    rw [wrap_ok (ok64 (by omega) (by omega))]; omega
  rw [e]
  have := shrU_nat (x := x) (k := 8 * i) (by omega)
  unfold shrU at this
  rw [this, wrap8, Nat.pow_mul, show (2 : Nat) ^ 8 = 256 from rfl]
  omega
theorem bigN8 {x : Int} (h : okI .u64 x) : bigN x 8 = [byteAt x 7, byteAt x 6, byteAt x 5, byteAt x 4, byteAt x 3, byteAt x 2, byteAt x 1, byteAt x 0] := by
  obtain ⟨h1, h2⟩ := of_oku h
  obtain ⟨n, rfl⟩ := Int.eq_ofNat_of_zero_le h1
  have hs : ∀ k : Nat, k < 8 → sel (littleI (n : Int) 8) (((0 : Nat) : Int) + (k : Int)) = byteAt (n : Int) k := fun k hk => by
    rw [byteAt_eq hk, littleI_eq (by omega), sel_at (by simpa using hk)]
    simp
  show [sel (littleI (n : Int) 8) (((0 : Nat) : Int) + ((7 : Nat) : Int)), sel (littleI (n : Int) 8) (((0 : Nat) : Int) + ((6 : Nat) : Int)), sel (littleI (n : Int) 8) (((0 : Nat) : Int) + ((5 : Nat) : Int)), sel (littleI (n : Int) 8) (((0 : Nat) : Int) + ((4 : Nat) : Int)), sel (littleI (n : Int) 8) (((0 : Nat) : Int) + ((3 : Nat) : Int)), sel (littleI (n : Int) 8) (((0 : Nat) : Int) + ((2 : Nat) : Int)), sel (littleI (n : Int) 8) (((0 : Nat) : Int) + ((1 : Nat) : Int)), sel (littleI (n : Int) 8) (((0 : Nat) : Int) + ((0 : Nat) : Int))] = _
  rw [hs 7 (by omega), hs 6 (by omega), hs 5 (by omega), hs 4 (by omega), hs 3 (by omega), hs 2 (by omega), hs 1 (by omega), hs 0 (by omega)]
theorem put16_eq (h l : Int) : put16 h l = [byteAt h 7, byteAt h 6, byteAt h 5, byteAt h 4, byteAt h 3, byteAt h 2, byteAt h 1, byteAt h 0, byteAt l 7, byteAt l 6, byteAt l 5, byteAt l 4, byteAt l 3, byteAt l 2, byteAt l 1, byteAt l 0] := rfl
theorem put16_big {h l : Int} (hh : okI .u64 h) (hl : okI .u64 l) : put16 h l = bigN h 8 ++ bigN l 8 := by rw [put16_eq, bigN8 hh, bigN8 hl]; rfl
/-- Of a word's bytes the word is. -/
theorem wordAt_bytes {x : Nat} (hx : x < 18446744073709551616) {L : List Int} {o : Nat} (hL : ∀ i, i < 8 → L.getD (o + i) 0 = byteAt (x : Int) (7 - i)) : wordAt L o = (x : Int) := by
  rw [wordAt_val (b := fun i => x / 256 ^ (7 - i) % 256) (fun i => Nat.mod_lt _ (by omega)) fun i hi => by rw [hL i hi, byteAt_eq (by omega)]]
  congr 1
  simp only [valN]
  simp only [show 256 ^ (7 - 0) = 72057594037927936 from rfl, show 256 ^ (7 - 1) = 281474976710656 from rfl, show 256 ^ (7 - 2) = 1099511627776 from rfl, show 256 ^ (7 - 3) = 4294967296 from rfl, show 256 ^ (7 - 4) = 16777216 from rfl, show 256 ^ (7 - 5) = 65536 from rfl, show 256 ^ (7 - 6) = 256 from rfl, show 256 ^ (7 - 7) = 1 from rfl]
  omega
/-- Of eight bytes' word they are the bytes. -/
theorem bytes_wordAt {b : Nat → Nat} (hb : ∀ i, b i < 256) {L : List Int} {o : Nat} (hL : ∀ i, i < 8 → L.getD (o + i) 0 = ((b i : Nat) : Int)) {i : Nat} (hi : i < 8) : byteAt (wordAt L o) (7 - i) = L.getD (o + i) 0 := by
  rw [wordAt_val hb hL, byteAt_eq (by omega), hL i hi]
  congr 1
  simp only [valN]
  have h0 := hb 0
  have h1 := hb 1
  have h2 := hb 2
  have h3 := hb 3
  have h4 := hb 4
  have h5 := hb 5
  have h6 := hb 6
  have h7 := hb 7
  have : i = 0 ∨ i = 1 ∨ i = 2 ∨ i = 3 ∨ i = 4 ∨ i = 5 ∨ i = 6 ∨ i = 7 := by omega
  rcases this with rfl | rfl | rfl | rfl | rfl | rfl | rfl | rfl
  · rw [show 256 ^ (7 - 0) = 72057594037927936 from rfl]; omega
  · rw [show 256 ^ (7 - 1) = 281474976710656 from rfl]; omega
  · rw [show 256 ^ (7 - 2) = 1099511627776 from rfl]; omega
  · rw [show 256 ^ (7 - 3) = 4294967296 from rfl]; omega
  · rw [show 256 ^ (7 - 4) = 16777216 from rfl]; omega
  · rw [show 256 ^ (7 - 5) = 65536 from rfl]; omega
  · rw [show 256 ^ (7 - 6) = 256 from rfl]; omega
  · rw [show 256 ^ (7 - 7) = 1 from rfl]; omega
end Go.Proofs.Ytljchidgchjoeaa
