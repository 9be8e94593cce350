/- Words in columns and rows: the maps of the permutation have maps back (plain bit vectors). -/
import Derived.Test.YtpnikmkijedmbaaDoorBv
namespace Go.Proofs.YtpnikmkijedmbaaDoor
open Go Go.Ax

abbrev W64 := BitVec 64

/-! ## Turns -/

def rr (n : Nat) (v : W64) : W64 := v.rotateRight (n % 64)
theorem rr_bit (n : Nat) (v : W64) {i : Nat} (h : i < 64) : (rr n v).getLsbD i = v.getLsbD ((i + n) % 64) := by
  unfold rr
  rw [BitVec.getLsbD_rotateRight, Nat.mod_mod]
  have hn := Nat.mod_lt n (show 0 < 64 by decide)
  by_cases hc : i < 64 - n % 64
  · simp only [hc, decide_true, cond_true]; congr 1; omega
  · simp only [hc, decide_false, cond_false]
    have e : i - (64 - n % 64) = (i + n) % 64 := by omega
    rw [e]
    simp [h]
theorem eq_bits {x y : W64} (h : ∀ i, i < 64 → x.getLsbD i = y.getLsbD i) : x = y := BitVec.eq_of_getLsbD_eq fun i hi => h i hi
theorem rr_rr (m n : Nat) (v : W64) : rr m (rr n v) = rr (m + n) v := eq_bits fun i hi => by
  rw [rr_bit _ _ hi, rr_bit _ _ (Nat.mod_lt _ (by decide)), rr_bit _ _ hi]
  congr 1
  omega
theorem rr_mod {m n : Nat} (h : m % 64 = n % 64) (v : W64) : rr m v = rr n v := by unfold rr; rw [h]
theorem rr_zero (v : W64) : rr 0 v = v := eq_bits fun i hi => by rw [rr_bit _ _ hi]; congr 1; omega
theorem rr_xor (n : Nat) (u v : W64) : rr n (u ^^^ v) = rr n u ^^^ rr n v := eq_bits fun i hi => by
  rw [BitVec.getLsbD_xor, rr_bit _ _ hi, rr_bit _ _ hi, rr_bit _ _ hi, BitVec.getLsbD_xor]

/-! ## Rows -/

def chiW (a : Nat → W64) (x : Nat) : W64 := a x ^^^ (a ((x + 2) % 5) &&& ~~~ a ((x + 1) % 5))
theorem chi_bool : ∀ a b c d e : Bool,
    (let f (a b c : Bool) := a ^^ (c && !b)
     let g (p : Bool × Bool × Bool × Bool × Bool) := (f p.1 p.2.1 p.2.2.1, f p.2.1 p.2.2.1 p.2.2.2.1, f p.2.2.1 p.2.2.2.1 p.2.2.2.2, f p.2.2.2.1 p.2.2.2.2 p.1, f p.2.2.2.2 p.1 p.2.1)
     g (g (g (g (a, b, c, d, e))))) = (a, b, c, d, e) := by decide
theorem chiW4 (a : Nat → W64) {x : Nat} (hx : x < 5) : chiW (chiW (chiW (chiW a))) x = a x := eq_bits fun i hi => by
  have key := chi_bool ((a 0).getLsbD i) ((a 1).getLsbD i) ((a 2).getLsbD i) ((a 3).getLsbD i) ((a 4).getLsbD i)
  dsimp only at key
  have k0 := congrArg (fun p => p.1) key
  have k1 := congrArg (fun p => p.2.1) key
  have k2 := congrArg (fun p => p.2.2.1) key
  have k3 := congrArg (fun p => p.2.2.2.1) key
  have k4 := congrArg (fun p => p.2.2.2.2) key
  dsimp only at k0 k1 k2 k3 k4
  have hc : x = 0 ∨ x = 1 ∨ x = 2 ∨ x = 3 ∨ x = 4 := by omega
  rcases hc with rfl | rfl | rfl | rfl | rfl
  · rw [← k0]; simp only [chiW, BitVec.getLsbD_xor, BitVec.getLsbD_and, BitVec.getLsbD_not, hi, decide_true, Bool.true_and, Nat.reduceAdd, Nat.reduceMod]
  · rw [← k1]; simp only [chiW, BitVec.getLsbD_xor, BitVec.getLsbD_and, BitVec.getLsbD_not, hi, decide_true, Bool.true_and, Nat.reduceAdd, Nat.reduceMod]
  · rw [← k2]; simp only [chiW, BitVec.getLsbD_xor, BitVec.getLsbD_and, BitVec.getLsbD_not, hi, decide_true, Bool.true_and, Nat.reduceAdd, Nat.reduceMod]
  · rw [← k3]; simp only [chiW, BitVec.getLsbD_xor, BitVec.getLsbD_and, BitVec.getLsbD_not, hi, decide_true, Bool.true_and, Nat.reduceAdd, Nat.reduceMod]
  · rw [← k4]; simp only [chiW, BitVec.getLsbD_xor, BitVec.getLsbD_and, BitVec.getLsbD_not, hi, decide_true, Bool.true_and, Nat.reduceAdd, Nat.reduceMod]

/-! ## Columns -/

def mapM (a b n : Nat) (c : Nat → W64) (x : Nat) : W64 := c (x % 5) ^^^ (c ((x + a) % 5) ^^^ rr n (c ((x + b) % 5)))
theorem xor9 (c0 ca rb c2a rab r2 : W64) : c0 ^^^ (ca ^^^ rb) ^^^ ((ca ^^^ (c2a ^^^ rab)) ^^^ (rb ^^^ (rab ^^^ r2))) = c0 ^^^ (c2a ^^^ r2) := eq_bits fun i _ => by
  simp only [BitVec.getLsbD_xor]
  generalize c0.getLsbD i = p0
  generalize ca.getLsbD i = p1
  generalize rb.getLsbD i = p2
  generalize c2a.getLsbD i = p3
  generalize rab.getLsbD i = p4
  generalize r2.getLsbD i = p5
  revert p0 p1 p2 p3 p4 p5
  decide
theorem mapM_twice (a b n : Nat) (c : Nat → W64) (x : Nat) : mapM a b n (mapM a b n c) x = mapM (2 * a) (2 * b) (2 * n) c x := by
  have e1 : x % 5 % 5 = x % 5 := by omega
  have e2 : (x % 5 + a) % 5 = (x + a) % 5 := by omega
  have e3 : (x % 5 + b) % 5 = (x + b) % 5 := by omega
  have e4 : (x + a) % 5 % 5 = (x + a) % 5 := by omega
  have e5 : ((x + a) % 5 + a) % 5 = (x + 2 * a) % 5 := by omega
  have e6 : ((x + a) % 5 + b) % 5 = (x + a + b) % 5 := by omega
  have e7 : (x + b) % 5 % 5 = (x + b) % 5 := by omega
  have e8 : ((x + b) % 5 + a) % 5 = (x + a + b) % 5 := by omega
  have e9 : ((x + b) % 5 + b) % 5 = (x + 2 * b) % 5 := by omega
  simp only [mapM, e1, e2, e3, e4, e5, e6, e7, e8, e9, rr_xor, rr_rr]
  rw [show n + n = 2 * n by omega]
  exact xor9 _ _ _ _ _ _
def iterF {α : Type} (f : α → α) : Nat → α → α
  | 0, x => x
  | n + 1, x => f (iterF f n x)
theorem iterF_add {α : Type} (f : α → α) (x : α) : ∀ m n, iterF f (m + n) x = iterF f m (iterF f n x)
  | 0, n => by rw [Nat.zero_add]; rfl
  | m + 1, n => by rw [show m + 1 + n = (m + n) + 1 by omega]; simp only [iterF]; rw [iterF_add f x m n]
theorem iterM_pow (a b n : Nat) : ∀ k (c : Nat → W64), iterF (mapM a b n) (2 ^ k) c = mapM (2 ^ k * a) (2 ^ k * b) (2 ^ k * n) c
  | 0, c => by simp [iterF]
  | k + 1, c => by
    rw [show 2 ^ (k + 1) = 2 ^ k + 2 ^ k by omega, iterF_add, iterM_pow a b n k c, iterM_pow a b n k]
    funext x
    rw [mapM_twice]
    congr 1 <;> rw [← Nat.two_mul, Nat.mul_assoc]
theorem q_three (c : Nat → W64) {x : Nat} (hx : x < 5) : mapM 256 64 4032 (mapM 256 64 4032 (mapM 256 64 4032 c)) x = c x := by
  have r0 : ∀ v, rr 4032 v = v := fun v => by rw [rr_mod (n := 0) (by decide), rr_zero]
  have hc : x = 0 ∨ x = 1 ∨ x = 2 ∨ x = 3 ∨ x = 4 := by omega
  have key : ∀ p q r s t : W64, (let f (a b c : W64) := a ^^^ (b ^^^ c)
     let g (p : W64 × W64 × W64 × W64 × W64) := (f p.1 p.2.1 p.2.2.2.2, f p.2.1 p.2.2.1 p.1, f p.2.2.1 p.2.2.2.1 p.2.1, f p.2.2.2.1 p.2.2.2.2 p.2.2.1, f p.2.2.2.2 p.1 p.2.2.2.1)
     g (g (g (p, q, r, s, t)))) = (p, q, r, s, t) := by
    intro p q r s t
    have kb : ∀ p q r s t : Bool, (let f (a b c : Bool) := a ^^ (b ^^ c)
     let g (p : Bool × Bool × Bool × Bool × Bool) := (f p.1 p.2.1 p.2.2.2.2, f p.2.1 p.2.2.1 p.1, f p.2.2.1 p.2.2.2.1 p.2.1, f p.2.2.2.1 p.2.2.2.2 p.2.2.1, f p.2.2.2.2 p.1 p.2.2.2.1)
     g (g (g (p, q, r, s, t)))) = (p, q, r, s, t) := by decide
    dsimp only at kb ⊢
    simp only [Prod.mk.injEq]
    refine ⟨?_, ?_, ?_, ?_, ?_⟩ <;> refine eq_bits fun i _ => ?_
    · have := congrArg (fun z => z.1) (kb (p.getLsbD i) (q.getLsbD i) (r.getLsbD i) (s.getLsbD i) (t.getLsbD i)); simpa only [BitVec.getLsbD_xor] using this
    · have := congrArg (fun z => z.2.1) (kb (p.getLsbD i) (q.getLsbD i) (r.getLsbD i) (s.getLsbD i) (t.getLsbD i)); simpa only [BitVec.getLsbD_xor] using this
    · have := congrArg (fun z => z.2.2.1) (kb (p.getLsbD i) (q.getLsbD i) (r.getLsbD i) (s.getLsbD i) (t.getLsbD i)); simpa only [BitVec.getLsbD_xor] using this
    · have := congrArg (fun z => z.2.2.2.1) (kb (p.getLsbD i) (q.getLsbD i) (r.getLsbD i) (s.getLsbD i) (t.getLsbD i)); simpa only [BitVec.getLsbD_xor] using this
    · have := congrArg (fun z => z.2.2.2.2) (kb (p.getLsbD i) (q.getLsbD i) (r.getLsbD i) (s.getLsbD i) (t.getLsbD i)); simpa only [BitVec.getLsbD_xor] using this
  have k := key (c 0) (c 1) (c 2) (c 3) (c 4)
  dsimp only at k
  simp only [Prod.mk.injEq] at k
  obtain ⟨k0, k1, k2, k3, k4⟩ := k
  rcases hc with rfl | rfl | rfl | rfl | rfl
  · simpa only [mapM, r0, Nat.reduceAdd, Nat.reduceMod] using k0
  · simpa only [mapM, r0, Nat.reduceAdd, Nat.reduceMod] using k1
  · simpa only [mapM, r0, Nat.reduceAdd, Nat.reduceMod] using k2
  · simpa only [mapM, r0, Nat.reduceAdd, Nat.reduceMod] using k3
  · simpa only [mapM, r0, Nat.reduceAdd, Nat.reduceMod] using k4

/-- The columns' parities go round in 192 steps. -/
def parW : (Nat → W64) → Nat → W64 := mapM 4 1 63
theorem par192 (c : Nat → W64) {x : Nat} (hx : x < 5) : iterF parW 192 c x = c x := by
  have e : ∀ c, iterF parW 64 c = mapM 256 64 4032 c := iterM_pow 4 1 63 6
  rw [show (192 : Nat) = 64 + (64 + 64) from rfl, iterF_add, iterF_add, e, e, e]
  exact q_three c hx

end Go.Proofs.YtpnikmkijedmbaaDoor
