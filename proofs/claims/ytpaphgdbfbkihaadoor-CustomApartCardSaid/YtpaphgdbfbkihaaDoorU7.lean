/- Package custom: the same names. -/
import Derived.Test.YtpaphgdbfbkihaaDoorU5
namespace Go.Proofs.YtpaphgdbfbkihaaDoor
open Go Go.Ax

theorem fn_USame : FnOk Tryd.prog 28 Tryd.f28 := ⟨Tryd.func28, by kernel_rfl⟩
theorem fn_VSame : FnOk Tryd.prog 29 Tryd.f29 := ⟨Tryd.func29, by kernel_rfl⟩
theorem fn_CustomApart : FnOk Tryd.prog 8 Tryd.f8 := ⟨Tryd.func8, by kernel_rfl⟩
def qTwo (g : Nat) (T : List (List Int) → Bool) := (g, fsum [shN, shN] (fun _ => []) fun l => .one (.p (.c (.b (T l)))))
noncomputable def cVSame (E : List (List Int) → Bool) : Cfg := cfgM [] [] [qSameV E] [] []
theorem run_VSame (E : List (List Int) → Bool) (n m p q : Nat) (L M P Q : List Int) : (callA (cVSame E) true 1000 Tryd.f29 [nmA 0 n 2 m, nmA 4 p 6 q] (memX gdM [.rseq .u8 L 1, .gone, .rseq .u8 M 3, .gone, .rseq .u8 P 5, .gone, .rseq .u8 Q 7, .gone])).view =
    .need ((0 : Nat) + n ≤ L.length) (.need ((0 : Nat) + p ≤ P.length) (.br (E [partQ L (0 : Nat) n, partQ P (0 : Nat) p]) (.need ((0 : Nat) + m ≤ M.length) (.need ((0 : Nat) + q ≤ Q.length) (.leaf (.p (.c (.b (E [partQ M (0 : Nat) m, partQ Q (0 : Nat) q])))) [(0 : Nat)] []))) (.leaf (.p (.c (.b false))) [(0 : Nat)] []))) := by kernel_rfl
theorem run_USame (E : List (List Int) → Bool) (n m p q : Nat) (L M P Q : List Int) : (callA (cfgM [] [] [qEqualV E] [] []) true 1000 Tryd.f28 [nmA 0 n 2 m, nmA 4 p 6 q] (memX gdM [.rseq .u8 L 1, .gone, .rseq .u8 M 3, .gone, .rseq .u8 P 5, .gone, .rseq .u8 Q 7, .gone])).view =
    .need ((0 : Nat) + n ≤ L.length) (.need ((0 : Nat) + p ≤ P.length) (.br (E [partQ L (0 : Nat) n, partQ P (0 : Nat) p]) (.need ((0 : Nat) + m ≤ M.length) (.need ((0 : Nat) + q ≤ Q.length) (.leaf (.p (.c (.b (E [partQ M (0 : Nat) m, partQ Q (0 : Nat) q])))) [(0 : Nat)] []))) (.leaf (.p (.c (.b false))) [(0 : Nat)] []))) := by kernel_rfl
def sameB (l : List (List Int)) : Bool := E_same [l.getD 0 [], l.getD 2 []] && E_same [l.getD 1 [], l.getD 3 []]
theorem two_sat {L M P Q : List Int} : R2.sat (RS.met (.p (.c (.b (sameB [L, M, P, Q]))))) (.need ((0 : Nat) + L.length ≤ L.length) (.need ((0 : Nat) + P.length ≤ P.length) (.br (E_same [partQ L (0 : Nat) L.length, partQ P (0 : Nat) P.length]) (.need ((0 : Nat) + M.length ≤ M.length) (.need ((0 : Nat) + Q.length ≤ Q.length) (.leaf (.p (.c (.b (E_same [partQ M (0 : Nat) M.length, partQ Q (0 : Nat) Q.length])))) [(0 : Nat)] []))) (.leaf (.p (.c (.b false))) [(0 : Nat)] [])))) := by
  rw [partQ_all, partQ_all, partQ_all, partQ_all]
  have e : sameB [L, M, P, Q] = (E_same [L, P] && E_same [M, Q]) := rfl
  rw [e]
  refine ⟨by omega, by omega, fun h => ⟨by omega, by omega, ?_⟩, fun h => ?_⟩
  · rw [h]; exact met_b rfl rfl
  · rw [h]; exact met_b rfl rfl
set_option maxRecDepth 100000 in
theorem qs_VSame : FOk cM (qTwo 29 sameB).1 (qTwo 29 sameB).2 :=
  upM (fok_run (C := cVSame E_same) (shs := [shN, shN]) (T := fun l => .one (.p (.c (.b (sameB l))))) (conds := fun _ => []) (cokM mem0 mem0 (mem1 qs_Same) mem0) rfl rfl fn_VSame (by kernel_rfl) 1000 fun Ms _ _ => ⟨_, rfl, view_sat (by
    exact Eq.mpr (congrArg (R2.sat _) (run_VSame E_same (Ms 0).length (Ms 1).length (Ms 2).length (Ms 3).length (Ms 0) (Ms 1) (Ms 2) (Ms 3))) two_sat)⟩)
set_option maxRecDepth 100000 in
theorem qs_USame : FOk cM (qTwo 28 sameB).1 (qTwo 28 sameB).2 :=
  upM (fok_run (C := cfgM [] [] [qEqualV E_same] [] []) (shs := [shN, shN]) (T := fun l => .one (.p (.c (.b (sameB l))))) (conds := fun _ => []) (cokM mem0 mem0 (mem1 qs_Equal) mem0) rfl rfl fn_USame (by kernel_rfl) 1000 fun Ms _ _ => ⟨_, rfl, view_sat (by
    exact Eq.mpr (congrArg (R2.sat _) (run_USame E_same (Ms 0).length (Ms 1).length (Ms 2).length (Ms 3).length (Ms 0) (Ms 1) (Ms 2) (Ms 3))) two_sat)⟩)
noncomputable def cCApa (B T D R Lo U E : List (List Int) → Bool) (W : List (List Int) → List Int) : Cfg := cfgR [] [p_wakes17] [qNm 27 Lo, qTwo 28 T, qTwo 29 U, qNm 30 R, qNm 21 D, qUPreV B W, qSameV E] [] []
def CustomApartT_0 (Lo : List (List Int) → Bool) (n : Nat) (m : Nat) (p : Nat) (q : Nat) (L : List Int) (M : List Int) (P : List Int) (Q : List Int) : Out :=
  .need ((0 : Nat) + n ≤ L.length) (.need ((0 : Nat) + m ≤ M.length) (.br (Lo [partQ L (0 : Nat) n, partQ M (0 : Nat) m]) (.done (.one (.lb true)) Mem.empty) (.need ((0 : Nat) + p ≤ P.length) (.need ((0 : Nat) + q ≤ Q.length) (.done (.one (.sb (Lo [partQ P (0 : Nat) p, partQ Q (0 : Nat) q]))) Mem.empty)))))
theorem run_CustomApart (B T D R Lo U E : List (List Int) → Bool) (W : List (List Int) → List Int) (n m p q : Nat) (L M P Q : List Int) :
    callA (cCApa B T D R Lo U E W) false 1000 Tryd.f8 [nmA 1 n 3 m, nmA 5 p 7 q] (memX gdR [.rseq .u8 L 2, .gone, .rseq .u8 M 4, .gone, .rseq .u8 P 6, .gone, .rseq .u8 Q 8, .gone]) =
    .need ((0 : Nat) + n ≤ L.length) (.need ((0 : Nat) + m ≤ M.length) (.br (Lo [partQ L (0 : Nat) n, partQ M (0 : Nat) m]) (CustomApartT_0 Lo n m p q L M P Q) (.need ((0 : Nat) + p ≤ P.length) (.need ((0 : Nat) + q ≤ Q.length) (.br (Lo [partQ P (0 : Nat) p, partQ Q (0 : Nat) q]) (CustomApartT_0 Lo n m p q L M P Q) (.need ((0 : Nat) + n ≤ L.length) (.need ((0 : Nat) + m ≤ M.length) (.need ((0 : Nat) + p ≤ P.length) (.need ((0 : Nat) + q ≤ Q.length) (.need ((0 : Nat) + n ≤ L.length) (.need ((0 : Nat) + m ≤ M.length) (.need ((0 : Nat) + p ≤ P.length) (.need ((0 : Nat) + q ≤ Q.length) (.br (!T [partQ L (0 : Nat) n, partQ M (0 : Nat) m, partQ P (0 : Nat) p, partQ Q (0 : Nat) q] == U [partQ L (0 : Nat) n, partQ M (0 : Nat) m, partQ P (0 : Nat) p, partQ Q (0 : Nat) q]) (CustomApartT_0 Lo n m p q L M P Q) (.need ((0 : Nat) + n ≤ L.length) (.need ((0 : Nat) + m ≤ M.length) (.br (!R [partQ L (0 : Nat) n, partQ M (0 : Nat) m]) (.done (.one (.lb true)) Mem.empty) (.need ((0 : Nat) + p ≤ P.length) (.need ((0 : Nat) + q ≤ Q.length) (.br (!R [partQ P (0 : Nat) p, partQ Q (0 : Nat) q]) (.done (.one (.lb true)) Mem.empty) (.need ((0 : Nat) + n ≤ L.length) (.need ((0 : Nat) + m ≤ M.length) (.br (D [partQ L (0 : Nat) n, partQ M (0 : Nat) m]) (.done (.one (.lb true)) Mem.empty) (.need ((0 : Nat) + p ≤ P.length) (.need ((0 : Nat) + q ≤ Q.length) (.br (D [partQ P (0 : Nat) p, partQ Q (0 : Nat) q]) (.done (.one (.lb true)) Mem.empty) (.need ((0 : Nat) + n ≤ L.length) (.need ((0 : Nat) + m ≤ M.length) (.br (B [[(136 : Int)], partQ L (0 : Nat) n, partQ M (0 : Nat) m]) (.need ((0 : Nat) + p ≤ P.length) (.need ((0 : Nat) + q ≤ Q.length) (.br (B [[(136 : Int)], partQ P (0 : Nat) p, partQ Q (0 : Nat) q]) (.br (cmpI .gtr (↑(W [[(136 : Int)], partQ L (0 : Nat) n, partQ M (0 : Nat) m]).length : Int) (0 : Int)) (.need ((0 : Nat) + (W [[(136 : Int)], partQ L (0 : Nat) n, partQ M (0 : Nat) m]).length ≤ (W [[(136 : Int)], partQ L (0 : Nat) n, partQ M (0 : Nat) m]).length) (.need ((0 : Nat) + (W [[(136 : Int)], partQ P (0 : Nat) p, partQ Q (0 : Nat) q]).length ≤ (W [[(136 : Int)], partQ P (0 : Nat) p, partQ Q (0 : Nat) q]).length) (.need ((0 : Nat) + n ≤ L.length) (.need ((0 : Nat) + m ≤ M.length) (.need ((0 : Nat) + p ≤ P.length) (.need ((0 : Nat) + q ≤ Q.length) (.done (.one (.sb (E [partQ (W [[(136 : Int)], partQ L (0 : Nat) n, partQ M (0 : Nat) m]) (0 : Nat) (W [[(136 : Int)], partQ L (0 : Nat) n, partQ M (0 : Nat) m]).length, partQ (W [[(136 : Int)], partQ P (0 : Nat) p, partQ Q (0 : Nat) q]) (0 : Nat) (W [[(136 : Int)], partQ P (0 : Nat) p, partQ Q (0 : Nat) q]).length] == U [partQ L (0 : Nat) n, partQ M (0 : Nat) m, partQ P (0 : Nat) p, partQ Q (0 : Nat) q]))) Mem.empty))))))) (.done (.one (.lb false)) Mem.empty)) (.br (cmpI .gtr (↑(W [[(136 : Int)], partQ L (0 : Nat) n, partQ M (0 : Nat) m]).length : Int) (0 : Int)) (.need ((0 : Nat) + (W [[(136 : Int)], partQ L (0 : Nat) n, partQ M (0 : Nat) m]).length ≤ (W [[(136 : Int)], partQ L (0 : Nat) n, partQ M (0 : Nat) m]).length) (.need ((0 : Nat) + n ≤ L.length) (.need ((0 : Nat) + m ≤ M.length) (.need ((0 : Nat) + p ≤ P.length) (.need ((0 : Nat) + q ≤ Q.length) (.done (.one (.sb (E [partQ (W [[(136 : Int)], partQ L (0 : Nat) n, partQ M (0 : Nat) m]) (0 : Nat) (W [[(136 : Int)], partQ L (0 : Nat) n, partQ M (0 : Nat) m]).length, []] == U [partQ L (0 : Nat) n, partQ M (0 : Nat) m, partQ P (0 : Nat) p, partQ Q (0 : Nat) q]))) Mem.empty)))))) (.done (.one (.lb false)) Mem.empty))))) (.need ((0 : Nat) + p ≤ P.length) (.need ((0 : Nat) + q ≤ Q.length) (.br (B [[(136 : Int)], partQ P (0 : Nat) p, partQ Q (0 : Nat) q]) (.done (.one (.lb false)) Mem.empty) (.done (.one (.lb false)) Mem.empty))))))))))))))))))))))))))))))))) := by kernel_rfl

/-! ## CustomApart -/

theorem name_inj {r : Int} {A B P Q : List Int} (hA : A.length ≤ 1000) (hB : B.length ≤ 1000) (hP : P.length ≤ 1000) (hQ : Q.length ≤ 1000) (h : padW r (nameN A B) = padW r (nameN P Q)) : A = P ∧ B = Q := by
  unfold padW wholeN nameN at h
  rw [List.append_assoc, List.append_assoc, List.append_assoc, List.append_assoc] at h
  have h1 := List.append_cancel_left h
  have h2 : A = P := by rw [← (text_told A _ hA).2.2, h1, (text_told P _ hP).2.2]
  subst h2
  have h3 := List.append_cancel_left h1
  exact ⟨rfl, by rw [← (text_told B _ hB).2.2, h3, (text_told Q _ hQ).2.2]⟩
theorem pad_same {r : Int} {A B P Q : List Int} (hA : A.length ≤ 1000) (hB : B.length ≤ 1000) (hP : P.length ≤ 1000) (hQ : Q.length ≤ 1000) : E_same [padW r (nameN A B), padW r (nameN P Q)] = sameB [A, B, P, Q] := by
  show decide (padW r (nameN A B) = padW r (nameN P Q)) = (decide (A = P) && decide (B = Q))
  by_cases h : A = P ∧ B = Q
  · obtain ⟨rfl, rfl⟩ := h
    rw [decide_eq_true rfl, decide_eq_true rfl, decide_eq_true rfl]; rfl
  · rw [decide_eq_false fun e => h (name_inj hA hB hP hQ e)]
    cases hq : (decide (A = P) && decide (B = Q)) with
    | false => rfl
    | true => rw [Bool.and_eq_true] at hq; exact absurd ⟨of_decide_eq_true hq.1, of_decide_eq_true hq.2⟩ h
theorem padW_pos {r : Int} {M : List Int} : 0 < (padW r M).length := by
  have := leftN_len (x := r.toNat)
  unfold padW wholeN
  rw [List.length_append, List.length_append]
  omega
theorem cokCApa : COk (cCApa upB sameB emB (maxB 1000) longB sameB E_same upW) :=
  cokR mem0 (mem1 ps_wakes17) (memc (upR qs_long17) (memc (upR qs_USame) (memc (upR qs_VSame) (memc (upR qs_VRight) (memc (upR qs_VEmpty) (memc qs_UPrefix (mem1 (upR qs_Same)))))))) mem0
theorem max_of {k : Nat} {A B : List Int} (h : (!maxB k [A, B]) = false) : A.length ≤ k ∧ B.length ≤ k := by
  have h : (!(decide (A.length ≤ k) && decide (B.length ≤ k))) = false := h
  simpa using h
set_option maxRecDepth 100000 in
theorem law_CustomApart {H : Type} {enc : TypeId × Value → H} {W : World} {base : Nat} {args : Array Value} {ds : List (DataW H)} {ps : List MemPlace} (hT : DataW.TrodAll enc Tryd.prog W 0 (fun _ => true) true Tryd.f8.params.toList args.toList ds ps)
    (hval : ∀ (j : Nat) t v, Tryd.f8.params[j]? = some t → args[j]? = some v → Value.okWide Tryd.prog W .any base t v) (hgd : GD gdR W.heap.size W) :
    Calls Tryd.prog 8 args W fun e w' => e = .returned (.bool true) ∧ RowKit.Below W.heap.size W w' :=
  law_s (C := cCApa upB sameB emB (maxB 1000) longB sameB E_same upW) cokCApa rfl rfl fn_CustomApart (shs := [shN, shN]) (by kernel_rfl) 1000
    (fun Ms hok => ⟨_, run_CustomApart upB sameB emB (maxB 1000) longB sameB E_same upW (Ms 0).length (Ms 1).length (Ms 2).length (Ms 3).length (Ms 0) (Ms 1) (Ms 2) (Ms 3), by
      generalize Ms 0 = A
      generalize Ms 1 = B
      generalize Ms 2 = P
      generalize Ms 3 = Q
      unfold CustomApartT_0
      rw [partQ_all, partQ_all, partQ_all, partQ_all]
      have w1 : upW [[136], A, B] = padW 136 (nameN A B) := rfl
      have w2 : upW [[136], P, Q] = padW 136 (nameN P Q) := rfl
      rw [w1, w2, up_eq, up_eq, partQ_all, partQ_all]
      refine ⟨by omega, by omega, fun h1 => ⟨by omega, by omega, fun _ => .inr rfl, fun h2 => (by rw [h1] at h2; cases h2)⟩, fun h1 => ⟨by omega, by omega, fun h2 => ⟨by omega, by omega, fun h3 => (by rw [h1] at h3; cases h3), fun _ => ⟨by omega, by omega, .inl (by rw [h2])⟩⟩, fun h2 => ?_⟩⟩
      refine ⟨by omega, by omega, by omega, by omega, by omega, by omega, by omega, by omega, fun h => (by rw [beq_self_eq_true] at h; cases h), fun _ => ⟨by omega, by omega, fun _ => .inr rfl, fun h3 => ⟨by omega, by omega, fun _ => .inr rfl, fun h4 => ⟨by omega, by omega, fun _ => .inr rfl, fun h5 => ⟨by omega, by omega, fun _ => .inr rfl, fun h6 => ?_⟩⟩⟩⟩⟩
      obtain ⟨a1, a2⟩ := max_of h3
      obtain ⟨a3, a4⟩ := max_of h4
      have m1 : maxB 1000 [A, B] = true := by simpa using h3
      have m2 : maxB 1000 [P, Q] = true := by simpa using h4
      rw [m1, m2, h5, h6]
      refine ⟨by omega, by omega, fun _ => ⟨by omega, by omega, fun _ => ⟨fun _ => ⟨by omega, by omega, by omega, by omega, by omega, by omega, .inl ?_⟩, fun h => ?_⟩, fun h => (by cases h)⟩, fun h => (by cases h)⟩
      · rw [pad_same a1 a2 a3 a4, beq_self_eq_true]
      · have : ¬ (0 < ((padW 136 (nameN A B)).length : Int)) := of_decide_eq_false h
        have := padW_pos (r := 136) (M := nameN A B)
        omega⟩) hT hval hgd
end Go.Proofs.YtpaphgdbfbkihaaDoor
