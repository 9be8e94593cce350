/- Layer 16: the example; the law CodeNumbers. -/
import Derived.Test.YtpaphgdbfbkihaaDoorK5
namespace Go.Proofs.YtpaphgdbfbkihaaDoor
open Go Go.Ax

def qL (g : Nat) (T : List (List Int) → List Int) := (g, fsum [.one (.w .u64)] (fun _ => []) fun l => .one (.p (.c (.s 5 .u8 (T l)))))
def qTextV (T : List (List Int) → List Int) := (13, fsum [.one (.s .u8)] (fun l => [(l.getD 0 []).length ≤ bigLen]) fun l => .one (.p (.c (.s 5 .u8 (T l)))))
def qSameV (E : List (List Int) → Bool) := (14, fsum [.one (.s .u8), .one (.s .u8)] (fun _ => []) fun l => .one (.p (.c (.b (E l)))))
def qGetV (N S : List (List Int) → Int) (K : List (List Int) → Bool) := (16, fsum [.one (.s .u8)] (fun _ => []) fun l => .one (.t [.c (.i .u64 (N l)), .c (.i .i64 (S l)), .c (.b (K l))]))
theorem fn_wakes16 : FnOk Tryd.prog 12 Tryd.f12 := ⟨Tryd.func12, by kernel_rfl⟩
def p_wakes16 := (12, gsum [] (fun _ => []) fun _ => .p (.b true))
def wk (E : List (List Int) → Bool) (A B : List Int) (o : Out) : Out := .need (0 + A.length ≤ A.length) (.br (E [partQ A 0 A.length, B]) o noO)
theorem run_wakes16 (T U : List (List Int) → List Int) (E : List (List Int) → Bool) : callA (cfgM [] [] [qLeftV T, qTextV U, qSameV E] [] []) false 1000 Tryd.f12 [] (memG gdM) =
    wk E (T [[0]]) [1, 0] (wk E (T [[256]]) [2, 1, 0] (.need (([] : List Int).length ≤ bigLen) (.need (0 + (U [[]]).length ≤ (U [[]]).length) (sbO (E [partQ (U [[]]) 0 (U [[]]).length, [1, 0]]))))) := by kernel_rfl
theorem wk_sat {K : AV → Mem → Prop} {A B : List Int} {o : Out} (h : A = B) (ho : o.sat K) : (wk E_same A B o).sat K := by
  subst h
  refine ⟨by omega, fun _ => ho, fun he => ?_⟩
  rw [partQ_all] at he
  have : E_same [A, A] = decide (A = A) := rfl
  rw [this, decide_eq_true rfl] at he
  cases he
theorem ps_wakes16 : PSOk cM p_wakes16.1 p_wakes16.2 :=
  upP (psok_e (C := cfgM [] [] [qLeftV T_Left, qTextV T_Text, qSameV E_same] [] []) (cokM mem0 mem0 (memc qs_Left (memc qs_Text (mem1 qs_Same))) mem0) rfl rfl fn_wakes16 (by kernel_rfl) 1000 (fun _ => []) (fun _ => rfl) fun fs _ _ => ⟨_, run_wakes16 T_Left T_Text E_same, by
    refine wk_sat (by decide) (wk_sat (by decide) ⟨by decide, by decide, sat_sym ?_ rfl⟩)
    rfl⟩)

/-! ## Numbers told again -/

theorem foldN_bytes {x : Nat} : ∀ {n : Nat} {a : Int}, foldN a (bytesN x n) = a * ((256 ^ n : Nat) : Int) + ((x % 256 ^ n : Nat) : Int)
  | 0, a => by simp [bytesN, foldN]
  | n + 1, a => by
    simp only [bytesN, foldN]
    rw [foldN_bytes, Nat.mod_pow_succ, Nat.pow_succ]
    generalize 256 ^ n = p
    generalize x / p % 256 = c
    generalize x % p = r
    rw [Int.natCast_add, Int.natCast_mul, Int.natCast_mul, Int.add_mul, Int.mul_assoc, Int.mul_comm (c : Int)]
    have e : ((256 : Nat) : Int) = 256 := rfl
    rw [e, Int.mul_comm 256 (p : Int)]
    generalize a * ((p : Int) * 256) = u
    generalize (p : Int) * (c : Int) = v
    omega
theorem nbN_lt {x : Nat} (h : x < 18446744073709551616) : x < 256 ^ nbN x := by
  by_cases h0 : x = 0
  · subst h0; exact Nat.pow_pos (by omega)
  · rw [nbN_eq h0]
    exact (cbF_le (f := 8) (by simpa using h)).1 (Nat.le_refl _)
theorem fold_dig {x : Nat} (h : x < 18446744073709551616) : foldN 0 (digN x) = (x : Int) := by
  unfold digN
  rw [foldN_bytes, Nat.mod_eq_of_lt (nbN_lt h)]
  omega
theorem get_left {x : Nat} (h : x < 18446744073709551616) (M : List Int) : glB (leftN x ++ M) = true ∧ glN (leftN x ++ M) = (x : Int) ∧ glS (leftN x ++ M) = ((leftN x).length : Int) := by
  have hb := nbN_bd h
  have h1 : hd (leftN x ++ M) = (nbN x : Int) := rfl
  have hdl : (digN x).length = nbN x := digN_len
  have h2 : nOf (leftN x ++ M) = (x : Int) := by
    unfold nOf
    rw [h1, Int.toNat_natCast]
    show foldN 0 ((digN x ++ M).take (nbN x)) = _
    rw [List.take_append_of_le_length (by omega), List.take_of_length_le (by omega), fold_dig h]
  have h3 : glB (leftN x ++ M) = true := by
    refine decide_eq_true ⟨?_, by rw [h1]; omega, by rw [h1]; omega, ?_, ?_⟩
    · rw [List.length_append, leftN_len]; omega
    · rw [h1, List.length_append, leftN_len]; omega
    · rw [h1, h2, Int.toNat_natCast, Int.toNat_natCast, List.take_append_of_le_length (by rw [leftN_len]; omega), List.take_of_length_le (by rw [leftN_len]; omega)]
  refine ⟨h3, ?_, ?_⟩
  · unfold glN; rw [h3]; exact h2
  · unfold glS; rw [h3, h1, leftN_len]
    show 1 + (nbN x : Int) = _
    omega

/-! ## CodeNumbers -/

theorem fn_CodeNumbers : FnOk Tryd.prog 4 Tryd.f4 := ⟨Tryd.func4, by kernel_rfl⟩
def sameQ (E : List (List Int) → Bool) (A B : List Int) (o : Out) : Out := needs [0 + A.length ≤ A.length, 0 + B.length ≤ B.length] (.br (E [partQ A 0 A.length, partQ B 0 B.length]) o noO)
def endNum (T T' R R' : List Int) (E : List (List Int) → Bool) (N S : List (List Int) → Int) (K : List (List Int) → Bool) (x : Int) (X : List Int) : Out :=
  sameQ E T T' (sameQ E R R' (.br (K [X]) (.br (cmpI .eql (N [X]) x) (sbO (cmpI .eql (S [X]) (T.length : Int))) noO) noO))
noncomputable def cNums (T T' R R' : List (List Int) → List Int) (E : List (List Int) → Bool) (N S : List (List Int) → Int) (K : List (List Int) → Bool) : Cfg := cfgM [] [p_wakes16] [qLeftV T, qL 17 T', qL 18 R, qL 19 R', qSameV E, qGetV N S K] [] []
theorem run_CodeNumbers (T T' R R' : List (List Int) → List Int) (E : List (List Int) → Bool) (N S : List (List Int) → Int) (K : List (List Int) → Bool) (x : Int) (m : Nat) (L : List Int) :
    callA (cNums T T' R R' E N S K) false 1000 Tryd.f4 [.one (.si .u64 x), .one (.slr 2 3 0 m)] (memX gdM [.gone, .gone, .rseq .u8 L 3, .gone]) =
    .br (cmpI .gtr (m : Int) 100) yesO (.br (decide ((T [[x]]).length = 0)) (.br (decide (m = 0)) (endNum (T [[x]]) (T' [[x]]) (R [[x]]) (R' [[x]]) E N S K x []) (needs [0 + m ≤ L.length, True, lenP ([] ++ partQ L 0 m), 0 + ([] ++ partQ L 0 m).length ≤ ([] ++ partQ L 0 m).length] (endNum (T [[x]]) (T' [[x]]) (R [[x]]) (R' [[x]]) E N S K x (partQ ([] ++ partQ L 0 m) 0 ([] ++ partQ L 0 m).length))))
      (needs [0 + (T [[x]]).length ≤ (T [[x]]).length, True, lenP ([] ++ partQ (T [[x]]) 0 (T [[x]]).length), ([] ++ partQ (T [[x]]) 0 (T [[x]]).length).length = ([] ++ partQ (T [[x]]) 0 (T [[x]]).length).length, 0 + m ≤ L.length, True, lenP ([] ++ partQ (T [[x]]) 0 (T [[x]]).length ++ partQ L 0 m), 0 + ([] ++ partQ (T [[x]]) 0 (T [[x]]).length ++ partQ L 0 m).length ≤ ([] ++ partQ (T [[x]]) 0 (T [[x]]).length ++ partQ L 0 m).length]
        (endNum (T [[x]]) (T' [[x]]) (R [[x]]) (R' [[x]]) E N S K x (partQ ([] ++ partQ (T [[x]]) 0 (T [[x]]).length ++ partQ L 0 m) 0 ([] ++ partQ (T [[x]]) 0 (T [[x]]).length ++ partQ L 0 m).length)))) := by kernel_rfl
theorem needs_i {K : AV → Mem → Prop} {o : Out} : ∀ {ps : List Prop}, allP ps → o.sat K → (needs ps o).sat K
  | [], _, h => h
  | _ :: _, hp, h => ⟨hp.1, needs_i hp.2 h⟩
theorem sameQ_sat {K : AV → Mem → Prop} {A B : List Int} {o : Out} (h : A = B) (ho : o.sat K) : (sameQ E_same A B o).sat K := by
  subst h
  refine needs_i ⟨by omega, by omega, trivial⟩ ⟨fun _ => ho, fun he => ?_⟩
  have : E_same [partQ A 0 A.length, partQ A 0 A.length] = decide (partQ A 0 A.length = partQ A 0 A.length) := rfl
  rw [this, decide_eq_true rfl] at he
  cases he
def gN (l : List (List Int)) : Int := glN (l.getD 0 [])
def gS (l : List (List Int)) : Int := glS (l.getD 0 [])
def gB (l : List (List Int)) : Bool := glB (l.getD 0 [])
theorem cokNums : COk (cNums T_Left T_Left T_Right T_Right E_same gN gS gB) := cokM mem0 (mem1 ps_wakes16) (memc qs_Left (memc qs_RLeft (memc qs_Right (memc qs_RRight (memc qs_Same (mem1 qs_GetLeft)))))) mem0
set_option maxRecDepth 100000 in
theorem law_CodeNumbers {H : Type} {enc : TypeId × Value → H} {W : World} {base : Nat} {args : Array Value} {ds : List (DataW H)} {ps : List MemPlace} (hT : DataW.TrodAll enc Tryd.prog W 0 (fun _ => true) true Tryd.f4.params.toList args.toList ds ps)
    (hval : ∀ (j : Nat) t v, Tryd.f4.params[j]? = some t → args[j]? = some v → Value.okWide Tryd.prog W .any base t v) :
    Calls Tryd.prog 4 args W fun e w' => e = .returned (.bool true) ∧ RowKit.Below W.heap.size W w' :=
  law_s (C := cNums T_Left T_Left T_Right T_Right E_same gN gS gB) cokNums rfl rfl fn_CodeNumbers (shs := [.one (.w .u64), .one (.s .u8)]) (by kernel_rfl) 1000
    (fun Ms hok => ⟨_, run_CodeNumbers T_Left T_Left T_Right T_Right E_same gN gS gB ((Ms 0).getD 0 0) (Ms 1).length (Ms 1), by
      obtain ⟨⟨hl, hk⟩, ⟨_, _⟩, _⟩ := hok
      have hk : okI .u64 ((Ms 0).getD 0 0) := by
        match hq : Ms 0, hl with
        | [y], _ => exact hk y (by rw [hq]; simp)
      obtain ⟨h1, h2⟩ := of_oku hk
      generalize (Ms 0).getD 0 0 = y at *
      obtain ⟨x, rfl⟩ := Int.eq_ofNat_of_zero_le h1
      have hx : x < 18446744073709551616 := by omega
      generalize Ms 1 = M
      have hT1 : T_Left [[(x : Int)]] = leftN x := rfl
      rw [hT1]
      have hll := leftN_len (x := x)
      have hnb := nbN_bd hx
      refine ⟨fun _ => .inr rfl, fun hm => ⟨fun h0 => absurd (of_decide_eq_true h0) (by omega), fun _ => ?_⟩⟩
      have hm : ¬ (100 < (M.length : Int)) := of_decide_eq_false hm
      rw [partQ_all, partQ_all, List.nil_append, partQ_all]
      have hlen : (leftN x ++ M).length ≤ 140737488355328 := by rw [List.length_append]; omega
      refine needs_i ⟨by omega, trivial, lenP_of (by omega), rfl, by omega, trivial, lenP_of hlen, by omega, trivial⟩ (sameQ_sat rfl (sameQ_sat rfl ?_))
      obtain ⟨g1, g2, g3⟩ := get_left hx M
      have e1 : gB [leftN x ++ M] = true := g1
      have e2 : gN [leftN x ++ M] = (x : Int) := g2
      have e3 : gS [leftN x ++ M] = ((leftN x).length : Int) := g3
      rw [e1, e2, e3]
      refine ⟨fun _ => ⟨fun _ => .inl ?_, fun h => ?_⟩, fun h => (by cases h)⟩
      · rw [eql_d, decide_eq_true rfl]
      · rw [eql_d, decide_eq_true rfl] at h; cases h⟩) hT hval (fun p hp => by cases hp)
end Go.Proofs.YtpaphgdbfbkihaaDoor
