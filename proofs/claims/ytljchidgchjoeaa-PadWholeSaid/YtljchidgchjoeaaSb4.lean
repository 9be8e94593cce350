/- Layer 04: the law CountAdds. -/
import Derived.Test.YtljchidgchjoeaaSb3
namespace Go.Proofs.Ytljchidgchjoeaa
open Go Go.Ax

def T_of : List (List Int) → GR := fun l => .t [.l .u64 [iteI (anyOne (row0 l) tops) 0 (horn (row0 l) 64 64), iteI (anyOne (row0 l) tops) 0 (horn (row0 l) 0 64)], .b (!(anyOne (row0 l) tops))]
def p_of := (38, gsum [.l .i64 136] (fun _ => []) T_of)
theorem ofTree_sat {b : List Int} {K : AV → Mem → Prop} : ∀ {is : List Nat}, (anyOne b is = true → K (.tup [.agg [.li .u64 0, .li .u64 0], .one (.lb false)]) Mem.empty) →
    (anyOne b is = false → K (.tup [.agg [.si .u64 (horn b 64 64), .si .u64 (horn b 0 64)], .one (.lb true)]) Mem.empty) → (ofTree b is).sat K
  | [], _, h => h rfl
  | i :: is, h1, h2 => by
    refine ⟨fun hc => h1 (by simp [anyOne, hc]), fun hc => ofTree_sat (fun h => h1 (by simp [anyOne, h])) (fun h => h2 (by simp only [anyOne, hc, h]; rfl))⟩
theorem ps_of : PSOk (cfgB [] [] []) p_of.1 p_of.2 :=
  psok_e (C := cfgB [] [] []) (cokB (by simp) (by simp) (by simp)) rfl rfl fn_of rfl 1000 (fun fs => [.agg ((tab 136 (fs 0)).map (.si .i64))]) (fun _ => rfl) fun fs _ _ => by
    refine ⟨_, run_of (fs 0), ofTree_sat (fun h => sat_sym ?_ rfl) (fun h => sat_sym ?_ rfl)⟩
    · show _ = GR.mk false (.t [.l .u64 [iteI (anyOne (tab 136 (fs 0)) tops) 0 (horn (tab 136 (fs 0)) 64 64), iteI (anyOne (tab 136 (fs 0)) tops) 0 (horn (tab 136 (fs 0)) 0 64)], .b (!(anyOne (tab 136 (fs 0)) tops))])
      rw [h]; rfl
    · show _ = GR.mk false (.t [.l .u64 [iteI (anyOne (tab 136 (fs 0)) tops) 0 (horn (tab 136 (fs 0)) 64 64), iteI (anyOne (tab 136 (fs 0)) tops) 0 (horn (tab 136 (fs 0)) 0 64)], .b (!(anyOne (tab 136 (fs 0)) tops))])
      rw [h]; rfl

/-- The bits of a number of up to 136 bits, put together. -/
theorem horn_bits {V o : Nat} (ho : o + 64 ≤ 136) : ∀ k, k ≤ 64 → horn (tab 136 (bN V)) o k = ((V / 2 ^ (o + 64 - k) % 2 ^ k : Nat) : Int)
  | 0, _ => by simp [horn, Nat.mod_one]
  | k + 1, hk => by
    simp only [horn]
    rw [horn_bits ho k (by omega), nth_tab (by omega)]
    have e1 : o + 64 - k = (63 - k + o) + 1 := by omega
    have e2 : o + 64 - (k + 1) = 63 - k + o := by omega
    rw [e1, e2]
    generalize hq : V / 2 ^ (63 - k + o) = q
    have e3 : V / 2 ^ (63 - k + o + 1) = q / 2 := by rw [Nat.pow_succ, ← Nat.div_div_eq_div_mul, hq]
    have e4 : bN V (63 - k + o) = ((q % 2 : Nat) : Int) := by unfold bN; rw [hq]
    have e5 : q % 2 ^ (k + 1) = q % 2 + 2 * (q / 2 % 2 ^ k) := by rw [Nat.pow_succ, Nat.mul_comm, Nat.mod_mul]
    have hlt : q / 2 % 2 ^ k < 2 ^ k := Nat.mod_lt _ (Nat.two_pow_pos k)
    have hle : 2 ^ k ≤ 2 ^ 63 := Nat.pow_le_pow_right (by decide) (by omega)
    have h63 : (2 : Nat) ^ 63 = 9223372036854775808 := by decide
    rw [e3, e4, e5]
    have w1 : IntKind.u64.wrap ((q % 2 : Nat) : Int) = ((q % 2 : Nat) : Int) := wrap_ok (oku (by omega) (by omega))
    have w2 : binI .mul .u64 2 ((q / 2 % 2 ^ k : Nat) : Int) = ((2 * (q / 2 % 2 ^ k) : Nat) : Int) := by
      show IntKind.u64.wrap (2 * ((q / 2 % 2 ^ k : Nat) : Int)) = _
      rw [show (2 * ((q / 2 % 2 ^ k : Nat) : Int)) = ((2 * (q / 2 % 2 ^ k) : Nat) : Int) by push_cast; rfl]
      exact wrap_ok (oku (by omega) (by omega))
    rw [w1, w2]
    show IntKind.u64.wrap (_ + _) = _
    rw [show ((2 * (q / 2 % 2 ^ k) : Nat) : Int) + ((q % 2 : Nat) : Int) = ((q % 2 + 2 * (q / 2 % 2 ^ k) : Nat) : Int) by omega]
    exact wrap_ok (oku (by omega) (by omega))
theorem tops_all : ((List.range 256).all fun w => decide ((decide (w % 2 = 1) || (decide (w / 2 ^ 1 % 2 = 1) || (decide (w / 2 ^ 2 % 2 = 1) || (decide (w / 2 ^ 3 % 2 = 1) || (decide (w / 2 ^ 4 % 2 = 1) || (decide (w / 2 ^ 5 % 2 = 1) || (decide (w / 2 ^ 6 % 2 = 1) || decide (w / 2 ^ 7 % 2 = 1)))))))) = !(decide (w = 0)))) = true := by kernel_rfl
theorem anyOne_bits {V : Nat} (hV : V < 2 ^ 136) : anyOne (tab 136 (bN V)) tops = !(decide (V < 2 ^ 128)) := by
  have hb : ∀ i, i < 136 → cmpI .eql (nth (tab 136 (bN V)) i) 1 = decide (V / 2 ^ i % 2 = 1) := fun i hi => by
    rw [nth_tab hi]
    unfold bN cmpI
    by_cases h : V / 2 ^ i % 2 = 1
    · rw [h]; rfl
    · rw [decide_eq_false h]
      have : V / 2 ^ i % 2 = 0 := by omega
      rw [this]; rfl
  simp only [tops, anyOne, hb 128 (by decide), hb 129 (by decide), hb 130 (by decide), hb 131 (by decide), hb 132 (by decide), hb 133 (by decide), hb 134 (by decide), hb 135 (by decide), Bool.or_false]
  have hp : ∀ j, V / 2 ^ (128 + j) = V / 2 ^ 128 / 2 ^ j := fun j => by rw [Nat.pow_add, Nat.div_div_eq_div_mul]
  have hW : V / 2 ^ 128 < 256 := by
    rw [Nat.div_lt_iff_lt_mul (Nat.two_pow_pos _)]
    rw [show (256 : Nat) * 2 ^ 128 = 2 ^ 136 by decide]; exact hV
  have h0 : (V < 2 ^ 128) ↔ V / 2 ^ 128 = 0 := by
    rw [Nat.div_eq_zero_iff]; simp
  rw [show (129 : Nat) = 128 + 1 from rfl, show (130 : Nat) = 128 + 2 from rfl, show (131 : Nat) = 128 + 3 from rfl, show (132 : Nat) = 128 + 4 from rfl, show (133 : Nat) = 128 + 5 from rfl, show (134 : Nat) = 128 + 6 from rfl, show (135 : Nat) = 128 + 7 from rfl, hp, hp, hp, hp, hp, hp, hp]
  generalize V / 2 ^ 128 = W at *
  simp only [h0]
  exact of_decide_eq_true (List.all_eq_true.1 tops_all W (List.mem_range.2 hW))
theorem of_bits4 {V : Nat} (hV : V < 2 ^ 136) : T_of [tab 136 (bN V)] = T_ok (fit (V : Int)) (V : Int) := by
  have e0 : (2 : Nat) ^ 128 = 340282366920938463463374607431768211456 := by decide
  have e64 : (2 : Nat) ^ 64 = 18446744073709551616 := by decide
  show GR.t [.l .u64 [iteI (anyOne (tab 136 (bN V)) tops) 0 (horn (tab 136 (bN V)) 64 64), iteI (anyOne (tab 136 (bN V)) tops) 0 (horn (tab 136 (bN V)) 0 64)], .b (!(anyOne (tab 136 (bN V)) tops))] = _
  rw [anyOne_bits hV, horn_bits (by decide) 64 (by decide), horn_bits (by decide) 64 (by decide)]
  unfold T_ok
  by_cases h : V < 2 ^ 128
  · have hf : fit (V : Int) = true := by unfold fit; rw [decide_eq_true (by omega : (0 : Int) ≤ V), decide_eq_true (by omega : (V : Int) < 340282366920938463463374607431768211456)]; rfl
    rw [hf, decide_eq_true h]
    have a1 : ((V / 2 ^ (64 + 64 - 64) % 2 ^ 64 : Nat) : Int) = (V : Int) / 18446744073709551616 := by
      show ((V / 2 ^ 64 % 2 ^ 64 : Nat) : Int) = _
      rw [e64]; omega
    have a2 : ((V / 2 ^ (0 + 64 - 64) % 2 ^ 64 : Nat) : Int) = (V : Int) % 18446744073709551616 := by
      show ((V / 2 ^ 0 % 2 ^ 64 : Nat) : Int) = _
      rw [e64]; omega
    rw [a1, a2]
    rfl
  · have hf : fit (V : Int) = false := by unfold fit; rw [Bool.and_eq_false_iff]; right; exact decide_eq_false (by omega)
    rw [hf, decide_eq_false h]
    rfl

/-! ## Sums -/

def carR (a b : Nat → Int) : Nat → Int
  | 0 => 0
  | i + 1 => binI .quo .i64 (binI .add .i64 (binI .add .i64 (a i) (b i)) (carR a b i)) 2
def sumR (a b : Nat → Int) (i : Nat) : Int := binI .add .i64 (binI .add .i64 (a i) (b i)) (carR a b i)
def pOfV (H L : List Int → Int) (K : List Int → Bool) := (38, gsum [.l .i64 136] (fun _ => []) fun l => .t [.l .u64 [H (row0 l), L (row0 l)], .b (K (row0 l))])
def ofA (H L : List Int → Int) (K : List Int → Bool) (es : List Int) : AV := .tup [.agg [.si .u64 (H es), .si .u64 (L es)], .one (.sb (K es))]
theorem fn_RAdd : FnOk Try.prog 15 Try.f15 := ⟨Try.func15, by kernel_rfl⟩
theorem run_RAdd (T : Int → Int → Nat → Int) (H L : List Int → Int) (K : List Int → Bool) (h l n : Int) : callA (cfgB [] [pBitsV T, pOfV H L K] []) false 1000 Try.f15 [C2 h l, .one (.si .u64 n)] (memG gdB) =
    .done (ofA H L K (tab 136 fun i => binI .rem .i64 (sumR (T h l) (T 0 n) i) 2)) Mem.empty := by kernel_rfl


theorem add_bits (A B i : Nat) (hp : 0 < 2 ^ i) : A / 2 ^ i % 2 + B / 2 ^ i % 2 + (A % 2 ^ i + B % 2 ^ i) / 2 ^ i ≤ 3 ∧ (A / 2 ^ i % 2 + B / 2 ^ i % 2 + (A % 2 ^ i + B % 2 ^ i) / 2 ^ i) % 2 = (A + B) / 2 ^ i % 2 ∧
    (A / 2 ^ i % 2 + B / 2 ^ i % 2 + (A % 2 ^ i + B % 2 ^ i) / 2 ^ i) / 2 = (A % 2 ^ (i + 1) + B % 2 ^ (i + 1)) / 2 ^ (i + 1) := by
  have e1 : A % 2 ^ (i + 1) = A % 2 ^ i + 2 ^ i * (A / 2 ^ i % 2) := by rw [Nat.pow_succ, Nat.mod_mul]
  have e2 : B % 2 ^ (i + 1) = B % 2 ^ i + 2 ^ i * (B / 2 ^ i % 2) := by rw [Nat.pow_succ, Nat.mod_mul]
  have e3 : (A + B) / 2 ^ i = A / 2 ^ i + B / 2 ^ i + (A % 2 ^ i + B % 2 ^ i) / 2 ^ i := by
    have ha := Nat.div_add_mod A (2 ^ i)
    have hb := Nat.div_add_mod B (2 ^ i)
    have : A + B = 2 ^ i * (A / 2 ^ i + B / 2 ^ i) + (A % 2 ^ i + B % 2 ^ i) := by rw [Nat.mul_add]; omega
    rw [this, Nat.mul_add_div hp]
  have e4 : (A % 2 ^ (i + 1) + B % 2 ^ (i + 1)) / 2 ^ (i + 1) = (A / 2 ^ i % 2 + B / 2 ^ i % 2 + (A % 2 ^ i + B % 2 ^ i) / 2 ^ i) / 2 := by
    rw [e1, e2, Nat.pow_succ, ← Nat.div_div_eq_div_mul]
    have : A % 2 ^ i + 2 ^ i * (A / 2 ^ i % 2) + (B % 2 ^ i + 2 ^ i * (B / 2 ^ i % 2)) = 2 ^ i * (A / 2 ^ i % 2 + B / 2 ^ i % 2) + (A % 2 ^ i + B % 2 ^ i) := by rw [Nat.mul_add]; omega
    rw [this, Nat.mul_add_div hp]
  have h1 : A % 2 ^ i < 2 ^ i := Nat.mod_lt _ hp
  have h2 : B % 2 ^ i < 2 ^ i := Nat.mod_lt _ hp
  have h3 : (A % 2 ^ i + B % 2 ^ i) / 2 ^ i < 2 := by rw [Nat.div_lt_iff_lt_mul hp]; omega
  rw [e3, e4]
  omega
theorem nat64 {n : Nat} (h : n ≤ 1000) : IntKind.i64.wrap (n : Int) = n := wrap_ok (ok64 (by omega) (by omega))
theorem carR_eq (A B : Nat) : ∀ i, carR (bN A) (bN B) i = (((A % 2 ^ i + B % 2 ^ i) / 2 ^ i : Nat) : Int) ∧ sumR (bN A) (bN B) i = ((A / 2 ^ i % 2 + B / 2 ^ i % 2 + (A % 2 ^ i + B % 2 ^ i) / 2 ^ i : Nat) : Int) := by
  have hs : ∀ i, carR (bN A) (bN B) i = (((A % 2 ^ i + B % 2 ^ i) / 2 ^ i : Nat) : Int) → sumR (bN A) (bN B) i = ((A / 2 ^ i % 2 + B / 2 ^ i % 2 + (A % 2 ^ i + B % 2 ^ i) / 2 ^ i : Nat) : Int) := fun i h => by
    have hb := (add_bits A B i (Nat.two_pow_pos i)).1
    unfold sumR
    rw [h]
    show IntKind.i64.wrap (IntKind.i64.wrap (bN A i + bN B i) + _) = _
    unfold bN
    rw [show (((A / 2 ^ i % 2 : Nat) : Int) + ((B / 2 ^ i % 2 : Nat) : Int)) = ((A / 2 ^ i % 2 + B / 2 ^ i % 2 : Nat) : Int) by omega, nat64 (by omega), show (((A / 2 ^ i % 2 + B / 2 ^ i % 2 : Nat) : Int) + (((A % 2 ^ i + B % 2 ^ i) / 2 ^ i : Nat) : Int)) = ((A / 2 ^ i % 2 + B / 2 ^ i % 2 + (A % 2 ^ i + B % 2 ^ i) / 2 ^ i : Nat) : Int) by omega, nat64 (by omega)]
  intro i
  induction i with
  | zero => exact ⟨by simp [carR, Nat.mod_one], hs 0 (by simp [carR, Nat.mod_one])⟩
  | succ i ih =>
    have h : carR (bN A) (bN B) (i + 1) = (((A % 2 ^ (i + 1) + B % 2 ^ (i + 1)) / 2 ^ (i + 1) : Nat) : Int) := by
      show binI .quo .i64 (sumR (bN A) (bN B) i) 2 = _
      rw [ih.2]
      obtain ⟨q1, _, q3⟩ := add_bits A B i (Nat.two_pow_pos i)
      rw [← q3]
      generalize A / 2 ^ i % 2 + B / 2 ^ i % 2 + (A % 2 ^ i + B % 2 ^ i) / 2 ^ i = s at *
      show IntKind.i64.wrap ((s : Int).tdiv 2) = _
      rw [Int.tdiv_eq_ediv_of_nonneg (by omega), show ((s : Int) / 2) = ((s / 2 : Nat) : Int) by omega, nat64 (by omega)]
    exact ⟨h, hs _ h⟩
theorem tmod2 (s : Nat) : ((s : Int)).tmod 2 = ((s % 2 : Nat) : Int) := by rw [Int.tmod_eq_emod_of_nonneg (by omega)]; omega
theorem addL_eq (A B : Nat) : (tab 136 fun i => binI .rem .i64 (sumR (bN A) (bN B) i) 2) = tab 136 (bN (A + B)) := tab_congr fun i _ => by
  rw [(carR_eq A B i).2]
  obtain ⟨_, q2, _⟩ := add_bits A B i (Nat.two_pow_pos i)
  unfold bN
  rw [← q2]
  exact tmod2 _

def Hn (es : List Int) : Int := iteI (anyOne es tops) 0 (horn es 64 64)
def Ln (es : List Int) : Int := iteI (anyOne es tops) 0 (horn es 0 64)
def Kn (es : List Int) : Bool := !(anyOne es tops)
theorem ps_ofV : PSOk (cfgB [] [] []) (pOfV Hn Ln Kn).1 (pOfV Hn Ln Kn).2 := ps_of
theorem ofA_bits {V : Nat} (hV : V < 2 ^ 136) : ofA Hn Ln Kn (tab 136 (bN V)) = (T_ok (fit (V : Int)) (V : Int)).mk false := by
  rw [← of_bits4 hV]
  rfl
theorem natC_val {h l : Int} (h1 : 0 ≤ h ∧ h ≤ 18446744073709551615) (h2 : 0 ≤ l ∧ l ≤ 18446744073709551615) : (natC h l : Int) = valC h l := by unfold natC valC; omega
def p_RAdd := (15, gsum [.l .u64 2, .w .u64] (fun _ => []) T_Add)
theorem ps_RAdd : PSOk (cfgB [] [] []) p_RAdd.1 p_RAdd.2 :=
  upB (psok_e (C := cfgB [] [pBitsV bitsT, pOfV Hn Ln Kn] []) (cokB (by simp) (by simp [ps_bits, ps_ofV]) (by simp)) rfl rfl fn_RAdd rfl 1000 (fun fs => [C2 (fs 0 0) (fs 0 1), .one (.si .u64 (fs 1 0))]) (fun _ => rfl) fun fs h _ => by
    obtain ⟨h1, h2⟩ := two_ok h.1
    have h3 : 0 ≤ fs 1 0 ∧ fs 1 0 ≤ 18446744073709551615 := one_ok h.2.1
    refine ⟨_, run_RAdd bitsT Hn Ln Kn (fs 0 0) (fs 0 1) (fs 1 0), sat_same ?_⟩
    have hn := natC_lt h1 h2
    have e128 : (2 : Nat) ^ 128 = 340282366920938463463374607431768211456 := by decide
    have e136 : (2 : Nat) ^ 136 = 87112285931760246646623899502532662132736 := by decide
    have hB : natC 0 (fs 1 0) = (fs 1 0).toNat := by unfold natC; omega
    show ofA Hn Ln Kn (tab 136 fun i => binI .rem .i64 (sumR (bN (natC (fs 0 0) (fs 0 1))) (bN (natC 0 (fs 1 0))) i) 2) = (T_ok (fit (valC (fs 0 0) (fs 0 1) + fs 1 0)) (valC (fs 0 0) (fs 0 1) + fs 1 0)).mk false
    rw [addL_eq, ofA_bits (by omega)]
    have e : ((natC (fs 0 0) (fs 0 1) + natC 0 (fs 1 0) : Nat) : Int) = valC (fs 0 0) (fs 0 1) + fs 1 0 := by rw [← natC_val h1 h2]; omega
    rw [e])

/-! ## Differences -/

def borR (a b : Nat → Int) : Nat → Int
  | 0 => 0
  | i + 1 => binI .sub .i64 1 (binI .quo .i64 (binI .add .i64 (binI .sub .i64 (binI .sub .i64 (a i) (b i)) (borR a b i)) 2) 2)
def difR (a b : Nat → Int) (i : Nat) : Int := binI .add .i64 (binI .sub .i64 (binI .sub .i64 (a i) (b i)) (borR a b i)) 2
theorem fn_RSub : FnOk Try.prog 16 Try.f16 := ⟨Try.func16, by kernel_rfl⟩
theorem run_RSub (T : Int → Int → Nat → Int) (H L : List Int → Int) (K : List Int → Bool) (h l n : Int) : callA (cfgB [] [pBitsV T, pOfV H L K] []) false 1000 Try.f16 [C2 h l, .one (.si .u64 n)] (memG gdB) =
    .br (cmpI .eql (borR (T h l) (T 0 n) 128) 1) (.done (.tup [.agg [.li .u64 0, .li .u64 0], .one (.lb false)]) Mem.empty)
      (.done (ofA H L K (tab 136 fun i => match Nat.blt i 128 with | true => binI .rem .i64 (difR (T h l) (T 0 n) i) 2 | false => T h l i)) Mem.empty) := by kernel_rfl


/-- One round of a difference. -/
theorem sub_bits (A B i : Nat) : (A / 2 ^ i % 2 : Nat) + (2 : Nat) ≥ (B / 2 ^ i % 2) + (if A % 2 ^ i < B % 2 ^ i then 1 else 0) ∧
    (B ≤ A → ((A / 2 ^ i % 2 + 2 - B / 2 ^ i % 2 - (if A % 2 ^ i < B % 2 ^ i then 1 else 0)) % 2 = (A - B) / 2 ^ i % 2)) ∧
    1 - (A / 2 ^ i % 2 + 2 - B / 2 ^ i % 2 - (if A % 2 ^ i < B % 2 ^ i then 1 else 0)) / 2 = (if A % 2 ^ (i + 1) < B % 2 ^ (i + 1) then 1 else 0) := by
  have hp : 0 < 2 ^ i := Nat.two_pow_pos i
  have e1 : A % 2 ^ (i + 1) = A % 2 ^ i + 2 ^ i * (A / 2 ^ i % 2) := by rw [Nat.pow_succ, Nat.mod_mul]
  have e2 : B % 2 ^ (i + 1) = B % 2 ^ i + 2 ^ i * (B / 2 ^ i % 2) := by rw [Nat.pow_succ, Nat.mod_mul]
  have h1 : A % 2 ^ i < 2 ^ i := Nat.mod_lt _ hp
  have h2 : B % 2 ^ i < 2 ^ i := Nat.mod_lt _ hp
  have ha := Nat.div_add_mod A (2 ^ i)
  have hb := Nat.div_add_mod B (2 ^ i)
  have m2 : ∀ x : Nat, x % 2 = 0 ∨ x % 2 = 1 := fun x => by omega
  refine ⟨by split <;> omega, fun hAB => ?_, ?_⟩
  · generalize 2 ^ i = p at *
    by_cases hlt : A % p < B % p
    · rw [if_pos hlt]
      have hq : B / p + 1 ≤ A / p := by
        rcases Nat.lt_or_ge (B / p) (A / p) with h | h
        · exact h
        · exfalso
          have := Nat.mul_le_mul_left p h
          omega
      have e : A - B = p * (A / p - B / p - 1) + (p + A % p - B % p) := by
        have e3 : p * (A / p) = p * (A / p - B / p - 1) + p * (B / p) + p := by
          rw [← Nat.mul_add, ← Nat.mul_succ]; congr 1; omega
        omega
      rw [e, Nat.mul_add_div hp, Nat.div_eq_of_lt (by omega : p + A % p - B % p < p)]
      omega
    · rw [if_neg hlt]
      have hq : B / p ≤ A / p := Nat.div_le_div_right hAB
      have e : A - B = p * (A / p - B / p) + (A % p - B % p) := by
        have e3 : p * (A / p) = p * (A / p - B / p) + p * (B / p) := by rw [← Nat.mul_add]; congr 1; omega
        omega
      rw [e, Nat.mul_add_div hp, Nat.div_eq_of_lt (by omega : A % p - B % p < p)]
      omega
  · rw [e1, e2]
    rcases m2 (A / 2 ^ i) with x | x <;> rcases m2 (B / 2 ^ i) with y | y <;> rw [x, y] <;> simp only [Nat.mul_zero, Nat.mul_one, Nat.add_zero]
    · by_cases hlt : A % 2 ^ i < B % 2 ^ i <;> simp [hlt]
    · have h : A % 2 ^ i < B % 2 ^ i + 2 ^ i := by omega
      rw [if_pos h]; split <;> rfl
    · have h : ¬ A % 2 ^ i + 2 ^ i < B % 2 ^ i := by omega
      rw [if_neg h]; split <;> rfl
    · by_cases hlt : A % 2 ^ i < B % 2 ^ i
      · rw [if_pos hlt, if_pos (by omega)]
      · rw [if_neg hlt, if_neg (by omega)]
def borN (A B i : Nat) : Nat := if A % 2 ^ i < B % 2 ^ i then 1 else 0
theorem borR_eq (A B : Nat) : ∀ i, borR (bN A) (bN B) i = ((borN A B i : Nat) : Int) ∧ difR (bN A) (bN B) i = ((A / 2 ^ i % 2 + 2 - B / 2 ^ i % 2 - borN A B i : Nat) : Int) := by
  have hs : ∀ i, borR (bN A) (bN B) i = ((borN A B i : Nat) : Int) → difR (bN A) (bN B) i = ((A / 2 ^ i % 2 + 2 - B / 2 ^ i % 2 - borN A B i : Nat) : Int) := fun i h => by
    have hb : A / 2 ^ i % 2 + 2 ≥ B / 2 ^ i % 2 + borN A B i := (sub_bits A B i).1
    unfold difR
    rw [h]
    show IntKind.i64.wrap (IntKind.i64.wrap (IntKind.i64.wrap (bN A i - bN B i) - _) + 2) = _
    unfold bN
    have g1 : A / 2 ^ i % 2 ≤ 1 := by omega
    have g2 : B / 2 ^ i % 2 ≤ 1 := by omega
    have g3 : borN A B i ≤ 1 := by unfold borN; split <;> omega
    generalize A / 2 ^ i % 2 = x at *
    generalize B / 2 ^ i % 2 = y at *
    generalize borN A B i = z at *
    rw [wrap_ok (ok64 (n := (x : Int) - (y : Int)) (by omega) (by omega)), wrap_ok (ok64 (n := (x : Int) - (y : Int) - (z : Int)) (by omega) (by omega)), wrap_ok (ok64 (n := (x : Int) - (y : Int) - (z : Int) + 2) (by omega) (by omega))]
    omega
  intro i
  induction i with
  | zero => exact ⟨by simp [borR, borN, Nat.mod_one], hs 0 (by simp [borR, borN, Nat.mod_one])⟩
  | succ i ih =>
    have h : borR (bN A) (bN B) (i + 1) = ((borN A B (i + 1) : Nat) : Int) := by
      show binI .sub .i64 1 (binI .quo .i64 (difR (bN A) (bN B) i) 2) = _
      rw [ih.2]
      obtain ⟨q1, _, q3⟩ := sub_bits A B i
      have q3 : 1 - (A / 2 ^ i % 2 + 2 - B / 2 ^ i % 2 - borN A B i) / 2 = borN A B (i + 1) := q3
      rw [← q3]
      have hle : A / 2 ^ i % 2 + 2 - B / 2 ^ i % 2 - borN A B i ≤ 3 := by omega
      generalize A / 2 ^ i % 2 + 2 - B / 2 ^ i % 2 - borN A B i = s at *
      show IntKind.i64.wrap (1 - IntKind.i64.wrap ((s : Int).tdiv 2)) = _
      rw [Int.tdiv_eq_ediv_of_nonneg (by omega), show ((s : Int) / 2) = ((s / 2 : Nat) : Int) by omega, nat64 (by omega), wrap_ok (ok64 (by omega) (by omega))]
      omega
    exact ⟨h, hs _ h⟩
theorem subL_eq {A B : Nat} (hAB : B ≤ A) (hA : A < 2 ^ 128) : (tab 136 fun i => match Nat.blt i 128 with | true => binI .rem .i64 (difR (bN A) (bN B) i) 2 | false => bN A i) = tab 136 (bN (A - B)) := tab_congr fun i _ => by
  by_cases hc : i < 128
  · rw [show Nat.blt i 128 = true from Nat.ble_eq_true_of_le hc]
    dsimp only
    rw [(borR_eq A B i).2]
    obtain ⟨_, q2, _⟩ := sub_bits A B i
    unfold bN
    rw [← q2 hAB]
    exact tmod2 _
  · rw [show Nat.blt i 128 = false from Bool.eq_false_iff.2 fun e => hc (Nat.le_of_ble_eq_true e)]
    have hle : (2 : Nat) ^ 128 ≤ 2 ^ i := Nat.pow_le_pow_right (by decide) (by omega)
    show bN A i = _
    rw [bN_none (by omega), bN_none (by omega)]
def p_RSub := (16, gsum [.l .u64 2, .w .u64] (fun _ => []) T_Sub)
theorem ps_RSub : PSOk (cfgB [] [] []) p_RSub.1 p_RSub.2 :=
  upB (psok_e (C := cfgB [] [pBitsV bitsT, pOfV Hn Ln Kn] []) (cokB (by simp) (by simp [ps_bits, ps_ofV]) (by simp)) rfl rfl fn_RSub rfl 1000 (fun fs => [C2 (fs 0 0) (fs 0 1), .one (.si .u64 (fs 1 0))]) (fun _ => rfl) fun fs h _ => by
    obtain ⟨h1, h2⟩ := two_ok h.1
    have h3 : 0 ≤ fs 1 0 ∧ fs 1 0 ≤ 18446744073709551615 := one_ok h.2.1
    have hn := natC_lt h1 h2
    have e128 : (2 : Nat) ^ 128 = 340282366920938463463374607431768211456 := by decide
    have e136 : (2 : Nat) ^ 136 = 87112285931760246646623899502532662132736 := by decide
    have hB : natC 0 (fs 1 0) = (fs 1 0).toNat := by unfold natC; omega
    have hv := natC_val h1 h2
    have hbor : borR (bitsT (fs 0 0) (fs 0 1)) (bitsT 0 (fs 1 0)) 128 = ((borN (natC (fs 0 0) (fs 0 1)) (natC 0 (fs 1 0)) 128 : Nat) : Int) := (borR_eq _ _ 128).1
    have hborN : borN (natC (fs 0 0) (fs 0 1)) (natC 0 (fs 1 0)) 128 = if natC (fs 0 0) (fs 0 1) < natC 0 (fs 1 0) then 1 else 0 := by
      unfold borN
      rw [Nat.mod_eq_of_lt hn, Nat.mod_eq_of_lt (by omega)]
    refine ⟨_, run_RSub bitsT Hn Ln Kn (fs 0 0) (fs 0 1) (fs 1 0), fun hc => ?_, fun hc => ?_⟩
    · rw [hbor, hborN] at hc
      have hlt : natC (fs 0 0) (fs 0 1) < natC 0 (fs 1 0) := by
        by_cases h : natC (fs 0 0) (fs 0 1) < natC 0 (fs 1 0)
        · exact h
        · rw [if_neg h] at hc; cases hc
      refine sat_sym ?_ rfl
      show _ = (T_ok (fit (valC (fs 0 0) (fs 0 1) - fs 1 0)) (valC (fs 0 0) (fs 0 1) - fs 1 0)).mk false
      have hf : fit (valC (fs 0 0) (fs 0 1) - fs 1 0) = false := by unfold fit; rw [Bool.and_eq_false_iff]; left; exact decide_eq_false (by omega)
      unfold T_ok
      rw [hf]
      rfl
    · rw [hbor, hborN] at hc
      have hlt : ¬ natC (fs 0 0) (fs 0 1) < natC 0 (fs 1 0) := fun h => by rw [if_pos h] at hc; cases hc
      refine sat_same ?_
      show ofA Hn Ln Kn (tab 136 fun i => match Nat.blt i 128 with | true => binI .rem .i64 (difR (bN (natC (fs 0 0) (fs 0 1))) (bN (natC 0 (fs 1 0))) i) 2 | false => bN (natC (fs 0 0) (fs 0 1)) i) = (T_ok (fit (valC (fs 0 0) (fs 0 1) - fs 1 0)) (valC (fs 0 0) (fs 0 1) - fs 1 0)).mk false
      rw [subL_eq (by omega) hn, ofA_bits (by omega)]
      have e : ((natC (fs 0 0) (fs 0 1) - natC 0 (fs 1 0) : Nat) : Int) = valC (fs 0 0) (fs 0 1) - fs 1 0 := by omega
      rw [e])

end Go.Proofs.Ytljchidgchjoeaa
