/- Layer 17: the law CustomLengths. -/
import Derived.Test.YtpaphgdbfbkihaaDoorU5
namespace Go.Proofs.YtpaphgdbfbkihaaDoor
open Go Go.Ax

theorem fn_CustomLengths : FnOk Tryd.prog 5 Tryd.f5 := ⟨Tryd.func5, by kernel_rfl⟩
noncomputable def cCLen (B M : List (List Int) → Bool) (W : List (List Int) → List Int) : Cfg := cfgR [] [p_wakes17] [qUPreV B W, qNm 21 M] [] []
theorem run_CustomLengths (B D : List (List Int) → Bool) (W : List (List Int) → List Int) (b : Bool) (n m : Nat) (L M : List Int) :
    callA (cCLen B D W) false 1000 Tryd.f5 [.one (.sb b), nmA 3 n 5 m] (memX gdR [.gone, .gone, .rseq .u8 L 4, .gone, .rseq .u8 M 6, .gone]) =
    .br (cmpI .gtr (↑n : Int) (1000 : Int)) (.done (.one (.lb true)) Mem.empty) (.br (cmpI .gtr (↑m : Int) (1000 : Int)) (.done (.one (.lb true)) Mem.empty) (.need ((0 : Nat) + n ≤ L.length) (.need ((0 : Nat) + m ≤ M.length) (.br (D [partQ L (0 : Nat) n, partQ M (0 : Nat) m]) (.done (.one (.lb true)) Mem.empty) (.br (b) (.need ((0 : Nat) + n ≤ L.length) (.need ((0 : Nat) + m ≤ M.length) (.br (B [[(136 : Int)], partQ L (0 : Nat) n, partQ M (0 : Nat) m]) (.br (true) (.br (cmpI .eql (binI .rem .i64 (↑(W [[(136 : Int)], partQ L (0 : Nat) n, partQ M (0 : Nat) m]).length : Int) (136 : Int)) (0 : Int)) (.br (cmpI .geq (↑(W [[(136 : Int)], partQ L (0 : Nat) n, partQ M (0 : Nat) m]).length : Int) (binI .add .i64 (binI .add .i64 (binI .add .i64 (binI .add .i64 (2 : Int) (↑n : Int)) (2 : Int)) (↑m : Int)) (2 : Int))) (.done (.one (.sb (cmpI .lss (↑(W [[(136 : Int)], partQ L (0 : Nat) n, partQ M (0 : Nat) m]).length : Int) (binI .add .i64 (binI .add .i64 (binI .add .i64 (binI .add .i64 (binI .add .i64 (binI .add .i64 (2 : Int) (↑n : Int)) (2 : Int)) (↑m : Int)) (2 : Int)) (2 : Int)) (136 : Int))))) Mem.empty) (.done (.one (.lb false)) Mem.empty)) (.done (.one (.lb false)) Mem.empty)) (.done (.one (.lb false)) Mem.empty)) (.br (false) (.br (cmpI .geq (0 : Int) (binI .add .i64 (binI .add .i64 (binI .add .i64 (binI .add .i64 (2 : Int) (↑n : Int)) (2 : Int)) (↑m : Int)) (2 : Int))) (.done (.one (.sb (cmpI .lss (0 : Int) (binI .add .i64 (binI .add .i64 (binI .add .i64 (binI .add .i64 (binI .add .i64 (binI .add .i64 (2 : Int) (↑n : Int)) (2 : Int)) (↑m : Int)) (2 : Int)) (2 : Int)) (136 : Int))))) Mem.empty) (.done (.one (.lb false)) Mem.empty)) (.done (.one (.lb false)) Mem.empty))))) (.need ((0 : Nat) + n ≤ L.length) (.need ((0 : Nat) + m ≤ M.length) (.br (B [[(168 : Int)], partQ L (0 : Nat) n, partQ M (0 : Nat) m]) (.br (true) (.br (cmpI .eql (binI .rem .i64 (↑(W [[(168 : Int)], partQ L (0 : Nat) n, partQ M (0 : Nat) m]).length : Int) (168 : Int)) (0 : Int)) (.br (cmpI .geq (↑(W [[(168 : Int)], partQ L (0 : Nat) n, partQ M (0 : Nat) m]).length : Int) (binI .add .i64 (binI .add .i64 (binI .add .i64 (binI .add .i64 (2 : Int) (↑n : Int)) (2 : Int)) (↑m : Int)) (2 : Int))) (.done (.one (.sb (cmpI .lss (↑(W [[(168 : Int)], partQ L (0 : Nat) n, partQ M (0 : Nat) m]).length : Int) (binI .add .i64 (binI .add .i64 (binI .add .i64 (binI .add .i64 (binI .add .i64 (binI .add .i64 (2 : Int) (↑n : Int)) (2 : Int)) (↑m : Int)) (2 : Int)) (2 : Int)) (168 : Int))))) Mem.empty) (.done (.one (.lb false)) Mem.empty)) (.done (.one (.lb false)) Mem.empty)) (.done (.one (.lb false)) Mem.empty)) (.br (false) (.br (cmpI .geq (0 : Int) (binI .add .i64 (binI .add .i64 (binI .add .i64 (binI .add .i64 (2 : Int) (↑n : Int)) (2 : Int)) (↑m : Int)) (2 : Int))) (.done (.one (.sb (cmpI .lss (0 : Int) (binI .add .i64 (binI .add .i64 (binI .add .i64 (binI .add .i64 (binI .add .i64 (binI .add .i64 (2 : Int) (↑n : Int)) (2 : Int)) (↑m : Int)) (2 : Int)) (2 : Int)) (168 : Int))))) Mem.empty) (.done (.one (.lb false)) Mem.empty)) (.done (.one (.lb false)) Mem.empty)))))))))) := by kernel_rfl

theorem add64 {a b : Int} (h1 : -1000000 ≤ a + b) (h2 : a + b ≤ 1000000) : binI .add .i64 a b = a + b := wrap_ok (ok64 (by omega) (by omega))
theorem nb_small {a : Nat} (h : a ≤ 1000) : nbN (8 * a) ≤ 2 := by
  by_cases h0 : a = 0
  · subst h0; decide
  · rw [nbN_eq (by omega)]
    refine (cbF_le (f := 8) (m := 2) ?_).2 ?_
    · omega
    · omega
theorem textN_two {A : List Int} (h : A.length ≤ 1000) : 2 + A.length ≤ (textN A).length ∧ (textN A).length ≤ 3 + A.length := by
  have h1 := nb_small h
  have h2 := leftN_len (x := 8 * A.length)
  have h3 : (textN A).length = (leftN (8 * A.length)).length + A.length := by unfold textN; rw [List.length_append]
  have h4 := nbN_bd (x := 8 * A.length) (by omega)
  omega
theorem padW_len {r : Int} {k : Nat} {A B : List Int} (hr : r = (k : Int)) (hk : (leftN k).length = 2) (h1 : 1 ≤ k) (hA : A.length ≤ 1000) (hB : B.length ≤ 1000) :
    ((padW r (nameN A B)).length : Int) % r = 0 ∧ 6 + A.length + B.length ≤ (padW r (nameN A B)).length ∧ (padW r (nameN A B)).length < 8 + A.length + B.length + k := by
  subst hr
  have a1 := textN_two hA
  have a2 := textN_two hB
  unfold padW wholeN zerosN
  rw [Int.toNat_natCast]
  have e : (leftN k ++ nameN A B).length = 2 + ((textN A).length + (textN B).length) := by unfold nameN; rw [List.length_append, List.length_append, hk]
  obtain ⟨q1, q2, q3⟩ := neg_mod_cases (a := ((leftN k ++ nameN A B).length : Int)) (w := (k : Int)) (by omega)
  rw [List.length_append, List.length_replicate]
  refine ⟨?_, by omega, by omega⟩
  have : (((leftN k ++ nameN A B).length + ((-((leftN k ++ nameN A B).length : Int)) % (k : Int)).toNat : Nat) : Int) = ((leftN k ++ nameN A B).length : Int) + (-((leftN k ++ nameN A B).length : Int)) % (k : Int) := by omega
  rw [this]; exact q3
theorem cokCLen : COk (cCLen upB emB upW) := cokR mem0 (mem1 ps_wakes17) (memc qs_UPrefix (mem1 (upR qs_VEmpty))) mem0
theorem len_sat {r : Int} {k : Nat} {A B : List Int} (hr : r = (k : Int)) (hk : (leftN k).length = 2) (h1 : 1 ≤ k) (h2 : k ≤ 1000) (hA : A.length ≤ 1000) (hB : B.length ≤ 1000) :
    Out.sat isY (.br (cmpI .eql (binI .rem .i64 ((padW r (nameN A B)).length : Int) r) 0) (.br (cmpI .geq ((padW r (nameN A B)).length : Int) (binI .add .i64 (binI .add .i64 (binI .add .i64 (binI .add .i64 (2 : Int) (A.length : Int)) (2 : Int)) (B.length : Int)) (2 : Int)))
      (.done (.one (.sb (cmpI .lss ((padW r (nameN A B)).length : Int) (binI .add .i64 (binI .add .i64 (binI .add .i64 (binI .add .i64 (binI .add .i64 (binI .add .i64 (2 : Int) (A.length : Int)) (2 : Int)) (B.length : Int)) (2 : Int)) (2 : Int)) r)))) Mem.empty) noO) noO) := by
  obtain ⟨q1, q2, q3⟩ := padW_len hr hk h1 hA hB
  have e : binI .rem .i64 ((padW r (nameN A B)).length : Int) r = ((padW r (nameN A B)).length : Int) % r := Int.tmod_eq_emod_of_nonneg (by omega)
  rw [add64 (a := 2) (b := (A.length : Int)) (by omega) (by omega), add64 (a := 2 + (A.length : Int)) (by omega) (by omega), add64 (a := 2 + (A.length : Int) + 2) (by omega) (by omega), add64 (a := 2 + (A.length : Int) + 2 + (B.length : Int)) (by omega) (by omega),
    add64 (a := 2 + (A.length : Int) + 2 + (B.length : Int) + 2) (by omega) (by omega), add64 (a := 2 + (A.length : Int) + 2 + (B.length : Int) + 2 + 2) (by omega) (by omega), e, q1]
  refine ⟨fun _ => ⟨fun _ => .inl (congrArg (fun b => AV.one (SV.sb b)) (decide_eq_true ?_)), fun h => ?_⟩, fun h => (by cases h)⟩
  · omega
  · have : ¬ (2 + (A.length : Int) + 2 + (B.length : Int) + 2 ≤ ((padW r (nameN A B)).length : Int)) := of_decide_eq_false h
    omega
set_option maxRecDepth 100000 in
theorem law_CustomLengths {H : Type} {enc : TypeId × Value → H} {W : World} {base : Nat} {args : Array Value} {ds : List (DataW H)} {ps : List MemPlace} (hT : DataW.TrodAll enc Tryd.prog W 0 (fun _ => true) true Tryd.f5.params.toList args.toList ds ps)
    (hval : ∀ (j : Nat) t v, Tryd.f5.params[j]? = some t → args[j]? = some v → Value.okWide Tryd.prog W .any base t v) (hgd : GD gdR W.heap.size W) :
    Calls Tryd.prog 5 args W fun e w' => e = .returned (.bool true) ∧ RowKit.Below W.heap.size W w' :=
  law_s (C := cCLen upB emB upW) cokCLen rfl rfl fn_CustomLengths (shs := [.one .b, shN]) (by kernel_rfl) 1000
    (fun Ms hok => ⟨_, run_CustomLengths upB emB upW ((Ms 0).getD 0 0 != 0) (Ms 1).length (Ms 2).length (Ms 1) (Ms 2), by
      generalize Ms 1 = A
      generalize Ms 2 = B
      generalize ((Ms 0).getD 0 0 != 0) = b
      rw [partQ_all, partQ_all]
      refine ⟨fun _ => .inr rfl, fun hA => ⟨fun _ => .inr rfl, fun hB => ⟨by omega, by omega, fun _ => .inr rfl, fun he => ?_⟩⟩⟩
      have hA : ¬ (1000 < (A.length : Int)) := of_decide_eq_false hA
      have hB : ¬ (1000 < (B.length : Int)) := of_decide_eq_false hB
      have hM : maxB 1000 [A, B] = true := by
        unfold maxB
        rw [Bool.and_eq_true]
        exact ⟨decide_eq_true (by show A.length ≤ 1000; omega), decide_eq_true (by show B.length ≤ 1000; omega)⟩
      have u1 : upB [[136], A, B] = true := by rw [up_eq, hM, he]; rfl
      have u2 : upB [[168], A, B] = true := by rw [up_eq, hM, he]; rfl
      have w1 : upW [[136], A, B] = padW 136 (nameN A B) := rfl
      have w2 : upW [[168], A, B] = padW 168 (nameN A B) := rfl
      rw [u1, u2, w1, w2]
      exact ⟨fun _ => ⟨by omega, by omega, fun _ => ⟨fun _ => len_sat (A := A) (B := B) (k := 136) rfl (by decide) (by omega) (by omega) (by omega) (by omega), fun h => (by cases h)⟩, fun h => (by cases h)⟩,
        fun _ => ⟨by omega, by omega, fun _ => ⟨fun _ => len_sat (A := A) (B := B) (k := 168) rfl (by decide) (by omega) (by omega) (by omega) (by omega), fun h => (by cases h)⟩, fun h => (by cases h)⟩⟩⟩) hT hval hgd
end Go.Proofs.YtpaphgdbfbkihaaDoor
