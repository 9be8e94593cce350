import Derived.Test.YtmiongjabbpmkaaDoorZ6
namespace Go.Proofs.YtmiongjabbpmkaaDoor
open Go Go.Ax
set_option linter.unusedSectionVars false
variable [JW]
theorem fn_LXor8 : FnOk Tryd.prog 47 Tryd.f47 := ⟨Tryd.func47, by kernel_rfl⟩
structure IXor where
  t : TypeId
  L : List Int
  M : List Int
  n : Nat
  m : Nat
  len : Int
  i : Int
  fin : List Int
def bl_xor (t : TypeId) (L M : List Int) : List AB := [.seq t .u8 L 1, .gone, .rseq .u8 M 3, .gone]
def St_xor (x : IXor) : LS := ⟨[(5, .one (.sq 0 1 0 x.n)), (1, .one (.slr 2 3 0 x.m)), (16, .one (.si .i64 x.len)), (17, .one (.si .i64 x.i))], bl_xor x.t x.L x.M⟩
noncomputable def bd_xor : Code := loopAt Tryd.f47 0
def xorB : List Int → List Int → List Int
  | a :: L, b :: M => binI .xor .u8 a b :: xorB L M
  | _, _ => []
theorem xorB_len : ∀ {L M : List Int}, (xorB L M).length = min L.length M.length
  | [], _ => by simp [xorB]
  | _ :: _, [] => by simp [xorB]
  | _ :: L, _ :: M => by simp [xorB, xorB_len (L := L) (M := M)]
def pi_xor (s : LS) : Option IXor := match s with
  | ⟨[(5, .one (.sq 0 1 0 n)), (1, .one (.slr 2 3 0 m)), (16, y), (17, z)], [.seq t .u8 L 1, .gone, .rseq .u8 M 3, .gone]⟩ => match i64? y, i64? z with
    | some len, some i => some ⟨t, L, M, n, m, len, i, xorB L M⟩
    | _, _ => none
  | _ => none
theorem pi_xor_fits (s : LS) (x : IXor) (h : pi_xor s = some x) : s.fits (St_xor x) := by
  unfold pi_xor at h
  split at h
  · split at h
    · rename_i len i h1 h2
      cases h
      exact ⟨⟨rfl, .inl rfl, rfl, .inl rfl, rfl, i64_fits h1, rfl, i64_fits h2, trivial⟩, rfl⟩
    · cases h
  · cases h
theorem run_bd_xor (x : IXor) (X : AE → Option LS → Prop) : exec cM 100 (.run bd_xor) (slots 32 (St_xor x).sl) (memX gdM (St_xor x).bl) (endX 0 32 [5, 1, 16, 17] [.fix 0, .fix 1, .fix 2, .fix 3] [false, false, false, false] X) =
    .br (cmpI .lss x.i x.len) (.need (0 ≤ x.i) (.need (x.i < x.n) (.need (0 ≤ ((0 : Nat) : Int) + x.i) (.need (((0 : Nat) : Int) + x.i < x.L.length) (.need (0 ≤ x.i) (.need (x.i < x.m) (.need (0 ≤ ((0 : Nat) : Int) + x.i) (.need (((0 : Nat) : Int) + x.i < x.M.length)
      (.need (0 ≤ x.i) (.need (x.i < x.n) (.need (0 ≤ ((0 : Nat) : Int) + x.i) (.need (((0 : Nat) : Int) + x.i < x.L.length) (.need (X .normal (some ⟨[(5, .one (.sq 0 1 0 x.n)), (1, .one (.slr 2 3 0 x.m)), (16, .one (.si .i64 x.len)), (17, .one (.si .i64 (binI .add .i64 x.i 1)))],
        [.seq x.t .u8 (x.L.set (((0 : Nat) : Int) + x.i).toNat (binI .xor .u8 (sel x.L (((0 : Nat) : Int) + x.i)) (sel x.M (((0 : Nat) : Int) + x.i)))) 1, .gone, .rseq .u8 x.M 3, .gone]⟩)) (.done .any Mem.empty)))))))))))))) (.need (X (.exit 0) (some (St_xor x))) (.done .any Mem.empty)) := by kernel_rfl
def ok_xor (x : IXor) : Prop := x.n = x.L.length ∧ x.m = x.M.length ∧ x.len = x.n ∧ x.n ≤ x.m ∧ x.n ≤ 9223372036854775807 ∧ x.i = 0 ∧ x.fin = xorB x.L x.M
def Inv_xor (x : IXor) : Prop := x.n = x.L.length ∧ x.m = x.M.length ∧ x.len = x.n ∧ x.n ≤ x.m ∧ x.n ≤ 9223372036854775807 ∧ ∃ j : Nat, x.i = (j : Int) ∧ j ≤ x.n ∧ x.fin = x.L.take j ++ xorB (x.L.drop j) (x.M.drop j)
def Ex_xor (x : IXor) (e : AE) (s : LS) : Prop := e = .exit 0 ∧ s = ⟨[(5, .one (.sq 0 1 0 x.n))], bl_xor x.t x.fin x.M⟩
noncomputable def F_xor : TM → Mem → Option ((AE → TM → Mem → Out) → Out) := lqF gdM 32 [] [5, 1, 16, 17] [.of 5, .of 1] [false, false, false, false] pi_xor ok_xor fun x k => k (.exit 0) ⟨[(5, .one (.sq 0 1 0 x.n))], bl_xor x.t x.fin x.M⟩
theorem add1 {j : Nat} (h : j ≤ 9223372036854775806) : binI .add .i64 (j : Int) 1 = ((j + 1 : Nat) : Int) := by
  show IntKind.i64.wrap _ = _
  rw [wrap_ok (ok64 (by omega) (by omega))]; omega
theorem lq_xor : LoopQ cM bd_xor F_xor := by
  refine lq_rule (C := cM) (cokM mem0 mem0 mem0 mem0) rfl (n := 100) (ri := [.fix 0, .fix 1, .fix 2, .fix 3]) (St := St_xor) (Inv := Inv_xor) (mu := fun x => (x.n - x.i).toNat) (Ex := Ex_xor) pi_xor_fits (fun x h => ?_) (fun K k x _ hs e s he => ?_) (fun x hI => ?_)
  · obtain ⟨h1, h2, h3, h4, h5, h6, h7⟩ := h
    exact ⟨h1, h2, h3, h4, h5, 0, h6, Nat.zero_le _, by rw [h7]; simp⟩
  · obtain ⟨rfl, rfl⟩ := he
    exact hs
  · show Out.sat (fun _ _ => True) (exec cM 100 (.run bd_xor) (slots 32 (St_xor x).sl) (memX gdM (St_xor x).bl) (endX 0 32 [5, 1, 16, 17] [.fix 0, .fix 1, .fix 2, .fix 3] [false, false, false, false] _))
    rw [run_bd_xor]
    obtain ⟨t, L, M, n, m, len, i, fin⟩ := x
    obtain ⟨h1, h2, h3, h4, h5, j, h6, h7, h8⟩ := hI
    dsimp only at h1 h2 h3 h4 h5 h6 h7 h8 ⊢
    subst h1 h2 h3 h6
    refine ⟨fun hc => ?_, fun hc => ⟨⟨_, ⟨rfl, rfl⟩, ⟨rfl, .inl rfl, trivial⟩, ?_⟩, trivial⟩⟩
    · have hc : (j : Int) < L.length := of_decide_eq_true hc
      have hj : j < L.length := by omega
      have hj' : j < M.length := by omega
      refine ⟨by omega, hc, by omega, by omega, by omega, by omega, by omega, by omega, by omega, hc, by omega, by omega, ?_, trivial⟩
      rw [sel_at hj, sel_at hj', show ((((0 : Nat) : Int) + (j : Int)).toNat) = j by omega, add1 (by omega)]
      refine ⟨⟨t, L.set j (binI .xor .u8 L[j] M[j]), M, L.length, M.length, (L.length : Int), ((j + 1 : Nat) : Int), fin⟩, ⟨(by simp), rfl, rfl, h4, h5, j + 1, rfl, hj, ?_⟩, ?_, fun e s' h => h, ⟨rfl, .inl rfl, rfl, .inl rfl, rfl, .inl rfl, rfl, .inl rfl, trivial⟩, rfl⟩
      · show fin = (L.set j _).take (j + 1) ++ xorB ((L.set j _).drop (j + 1)) (M.drop (j + 1))
        rw [h8, List.drop_eq_getElem_cons hj, List.drop_eq_getElem_cons hj', List.drop_set_of_lt (by omega), List.take_succ_eq_append_getElem (by simpa using hj)]
        simp [xorB, List.take_set_of_le]
      · show ((L.length : Int) - ((j + 1 : Nat) : Int)).toNat < ((L.length : Int) - (j : Int)).toNat
        omega
    · have hc : ¬ (j : Int) < L.length := of_decide_eq_false hc
      have : j = L.length := by omega
      subst this
      rw [List.take_length, List.drop_length] at h8
      simp only [xorB, List.append_nil] at h8
      show bl_xor t L M = bl_xor t fin M
      rw [h8]
def qCloneW (E : List (List Int) → Bool) (T : List (List Int) → List Int) := (63, fsum [.one (.s .u8)] (fun l => [(l.getD 0 []).length ≤ bigLen]) fun l => .br (E l) (.one (.p (.c .e))) (.one (.p (.c (.s 5 .u8 (T l))))))
noncomputable def cLX (E : List (List Int) → Bool) (T : List (List Int) → List Int) : Cfg := cfgM [] [] [qCloneW E T] [(3, bd_xor, F_xor)] []
def lxR (E : List (List Int) → Bool) (T : List (List Int) → List Int) (n m : Nat) (L M A : List Int) (k : Int) : R2 :=
  needR [(0 : Int) ≤ 0, 0 ≤ k, k ≤ (n : Int), 0 + k.toNat ≤ L.length, A.length ≤ bigLen] (.br (E [A]) (.leaf (.p (.c .e)) [0] []) (.need (bd_xor = bd_xor) (.need (ok_xor ⟨5, T [A], M, (T [A]).length, m, ((T [A]).length : Int), 0, xorB (T [A]) M⟩)
    (.leaf (.p (.c (.s 5 .u8 (xorB (T [A]) M)))) [(T [A]).length] [4]))))
theorem run_LXor8 (E : List (List Int) → Bool) (T : List (List Int) → List Int) (n m : Nat) (L M : List Int) : (callA (cLX E T) true 1000 Tryd.f47 [.one (.slr 0 1 0 n), .one (.slr 2 3 0 m)] (memX gdM [.rseq .u8 L 1, .gone, .rseq .u8 M 3, .gone])).view =
    lxR E T n m L M (partQ L 0 (mmI true (n : Int) (m : Int)).toNat) (mmI true (n : Int) (m : Int)) := by kernel_rfl
theorem xorB_take : ∀ {L M : List Int} (k : Nat), xorB (L.take k) M = (xorB L M).take k
  | [], _, k => by simp [xorB]
  | _ :: _, [], k => by cases k <;> simp [xorB]
  | _ :: _, _ :: _, 0 => by simp [xorB]
  | a :: L, b :: M, k + 1 => by simp [xorB, xorB_take (L := L) (M := M) k]
theorem mmI_min {n m : Nat} : mmI true (n : Int) (m : Int) = ((min n m : Nat) : Int) := by
  show iteI (decide ((m : Int) < (n : Int))) (m : Int) (n : Int) = _
  by_cases h : (m : Int) < (n : Int)
  · rw [decide_eq_true h]; show (m : Int) = _; omega
  · rw [decide_eq_false h]; show (n : Int) = _; omega
def q_LXor8 := (47, fsum [.one (.s .u8), .one (.s .u8)] (fun l => [min (l.getD 0 []).length (l.getD 1 []).length ≤ bigLen]) fun l => sliceT (xorB (l.getD 0 []) (l.getD 1 [])))
theorem qs_LXor8 : FOk cM q_LXor8.1 q_LXor8.2 :=
  upM (fok_view (C := cLX (fun l => decide (l.getD 0 [] = [])) fun l => l.getD 0 []) (shs := [.one (.s .u8), .one (.s .u8)]) (T := fun l => sliceT (xorB (l.getD 0 []) (l.getD 1 []))) (conds := fun l => [min (l.getD 0 []).length (l.getD 1 []).length ≤ bigLen])
    (cokM mem0 mem0 (mem1 qs_Clone) (mem1 lq_xor)) rfl rfl fn_LXor8 (by kernel_rfl) 1000 fun Ms hok hp =>
    ⟨_, run_LXor8 _ _ (Ms 0).length (Ms 1).length (Ms 0) (Ms 1), by
      have h0 : (Ms 0).length ≤ 9223372036854775807 := hok.1.1
      have hp : min (Ms 0).length (Ms 1).length ≤ bigLen := hp.1
      show R2.sat (RS.met (sliceT (xorB (Ms 0) (Ms 1))).now) _
      generalize Ms 0 = L at *
      generalize Ms 1 = M at *
      rw [mmI_min, show ((min L.length M.length : Nat) : Int).toNat = min L.length M.length from Int.toNat_natCast _]
      have hA : partQ L 0 (min L.length M.length) = L.take (min L.length M.length) := rfl
      rw [hA]
      have hl : (L.take (min L.length M.length)).length = min L.length M.length := by rw [List.length_take]; omega
      have hx : xorB (L.take (min L.length M.length)) M = xorB L M := by rw [xorB_take, List.take_of_length_le (by rw [xorB_len]; exact Nat.le_refl _)]
      refine needR_sat ⟨by omega, by omega, by omega, by omega, by omega, trivial⟩ ⟨fun h => sliceT_e ?_, fun h => ⟨rfl, ⟨rfl, rfl, rfl, ?_, ?_, rfl, rfl⟩, ?_⟩⟩
      · have h : L.take (min L.length M.length) = [] := of_decide_eq_true h
        rw [← hx, h]; simp [xorB]
      · show (L.take (min L.length M.length)).length ≤ M.length
        omega
      · show (L.take (min L.length M.length)).length ≤ 9223372036854775807
        omega
      · have h : ¬ L.take (min L.length M.length) = [] := of_decide_eq_false h
        show RS.met (sliceT (xorB L M)).now (.p (.c (.s 5 .u8 (xorB (L.take (min L.length M.length)) M)))) [(L.take (min L.length M.length)).length] [4]
        rw [hx]
        have hne : xorB L M ≠ [] := fun e => by
          have h1 : (xorB L M).length = 0 := by rw [e]; rfl
          rw [xorB_len] at h1
          exact h (List.eq_nil_of_length_eq_zero (by omega))
        exact met_f (decide_eq_false hne) (met_s (by rw [xorB_len]; omega))⟩)
end Go.Proofs.YtmiongjabbpmkaaDoor

namespace Go.Proofs.YtmiongjabbpmkaaDoor
open Go Go.Ax
set_option linter.unusedSectionVars false
variable [JW]
theorem fn_window : FnOk Tryd.prog 45 Tryd.f45 := ⟨Tryd.func45, by kernel_rfl⟩
theorem fn_LXor : FnOk Tryd.prog 29 Tryd.f29 := ⟨Tryd.func29, by kernel_rfl⟩
theorem fn_LOut : FnOk Tryd.prog 33 Tryd.f33 := ⟨Tryd.func33, by kernel_rfl⟩
theorem run_window (a n : Int) : callA cM false 1000 Tryd.f45 [.one (.si .i64 a), .one (.si .i64 n)] (memG gdM) =
    .br (cmpI .leq n (0 : Int)) (.done (.tup [TV.one (.li .i64 (0 : Int)), TV.one (.li .i64 (0 : Int))]) Mem.empty) (.br (cmpI .geq a (200 : Int)) (.done (.tup [TV.one (.li .i64 (0 : Int)), TV.one (.li .i64 (0 : Int))]) Mem.empty) (.br (cmpI .leq a (unI UnOp.neg .i64 n)) (.done (.tup [TV.one (.li .i64 (0 : Int)), TV.one (.li .i64 (0 : Int))]) Mem.empty) (.done (.tup [TV.one (.si .i64 (mmI false a (0 : Int))), TV.one (.si .i64 (mmI true (binI .sub .i64 n (binI .sub .i64 (mmI false a (0 : Int)) a)) (binI .sub .i64 (200 : Int) (mmI false a (0 : Int)))))]) Mem.empty))) := by kernel_rfl
def winBad (a n : Int) : Bool := decide (n ≤ 0) || (decide (a ≥ 200) || decide (a ≤ -n))
def winF (a n : Int) : Int := iteI (winBad a n) 0 (max a 0)
def winM (a n : Int) : Int := iteI (winBad a n) 0 (min (n - (max a 0 - a)) (200 - max a 0))
def pWinV (F M : List (List Int) → Int) := (45, gsum [.w .i64, .w .i64] (fun _ => []) fun l => .t [.w .i64 (F l), .w .i64 (M l)])
def qLBV (B : List (List Int) → List Int) := (46, fsum [.one (.l .u64 25)] (fun _ => []) fun l => .one (.p (.c (.s 5 .u8 (B l)))))
def qLXV (E : List (List Int) → Bool) (X : List (List Int) → List Int) := (47, fsum [.one (.s .u8), .one (.s .u8)] (fun l => [min (l.getD 0 []).length (l.getD 1 []).length ≤ bigLen]) fun l => .br (E l) (.one (.p (.c .e))) (.one (.p (.c (.s 5 .u8 (X l))))))
def qLOV (B : List (List Int) → Bool) (O : List (List Int) → Nat → Int) := (48, fsum [.one (.s .u8)] (fun _ => []) fun l => .br (B l) (.one (.t [.g ((tab 25 (O l)).map (.i .u64)), .c (.b true)])) (.one (.t [.g (List.replicate 25 (.i .u64 0)), .c (.b false)])))
noncomputable def cLXor (F M : List (List Int) → Int) (B : List (List Int) → List Int) (E : List (List Int) → Bool) (X : List (List Int) → List Int) (G : List (List Int) → Bool) (O : List (List Int) → Nat → Int) : Cfg := cfgM [] [pWinV F M] [qLBV B, qLXV E X, qLOV G O] [] []
def leafG (l : List Int) : R2 := .leaf (.p (.g (l.map (.i .u64)))) (List.replicate 25 0) []
def lofR (B1 R : List Int) (G : List (List Int) → Bool) (O : List (List Int) → Nat → Int) : R2 :=
  .need (0 + B1.length ≤ R.length) (.br (G [partQ R 0 B1.length]) (leafG (tab 25 (O [partQ R 0 B1.length]))) (leafG (List.replicate 25 0)))
def lcopR (B1 M : List Int) (o1 n1 : Nat) (G : List (List Int) → Bool) (O : List (List Int) → Nat → Int) : R2 :=
  needR [o1 + n1 ≤ B1.length, M.length ≤ 9223372036854775807] (lofR B1 (B1.take o1 ++ M.take n1 ++ B1.drop (o1 + min M.length n1)) G O)
def lxorR (E : List (List Int) → Bool) (X : List (List Int) → List Int) (G : List (List Int) → Bool) (O : List (List Int) → Nat → Int) (B1 : List Int) (F1 s d : Int) (n : Nat) (L : List Int) (o1 n1 o2 n2 o3 n3 : Nat) : R2 :=
  needR [0 ≤ F1, F1 ≤ (B1.length : Int), (B1.length : Int) ≤ (B1.length : Int), 0 ≤ F1, F1 ≤ s, s ≤ (B1.length : Int), 0 ≤ d, d ≤ (n : Int), (n : Int) ≤ (n : Int), o2 + n2 ≤ B1.length, o3 + n3 ≤ L.length, min (partQ B1 o2 n2).length (partQ L o3 n3).length ≤ bigLen]
    (.br (E [partQ B1 o2 n2, partQ L o3 n3]) (lcopR B1 [] o1 n1 G O) (.need (0 + (X [partQ B1 o2 n2, partQ L o3 n3]).length ≤ (X [partQ B1 o2 n2, partQ L o3 n3]).length) (lcopR B1 (partQ (X [partQ B1 o2 n2, partQ L o3 n3]) 0 (X [partQ B1 o2 n2, partQ L o3 n3]).length) o1 n1 G O)))
set_option maxRecDepth 20000 in
theorem run_LXor (F M : List (List Int) → Int) (B : List (List Int) → List Int) (E : List (List Int) → Bool) (X : List (List Int) → List Int) (G : List (List Int) → Bool) (O : List (List Int) → Nat → Int) (f : Nat → Int) (a : Int) (n : Nat) (L : List Int) :
  (callA (cLXor F M B E X G O) true 1000 Tryd.f29 [.agg ((tab 25 f).map (.si .u64)), .one (.si .i64 a), .one (.slr 4 5 0 n)] (memX gdM [.gone, .gone, .gone, .gone, .rseq .u8 L 5, .gone])).view =
    .br (cmpI .eql (M [[a], [(n : Int)]]) 0) (leafG (tab 25 f)) (lxorR E X G O (B [tab 25 f]) (F [[a], [(n : Int)]]) (binI .add .i64 (F [[a], [(n : Int)]]) (M [[a], [(n : Int)]])) (binI .sub .i64 (F [[a], [(n : Int)]]) a) n L
      (0 + (F [[a], [(n : Int)]]).toNat) ((((B [tab 25 f]).length : Nat) : Int).toNat - (F [[a], [(n : Int)]]).toNat) (0 + (F [[a], [(n : Int)]]).toNat) ((binI .add .i64 (F [[a], [(n : Int)]]) (M [[a], [(n : Int)]])).toNat - (F [[a], [(n : Int)]]).toNat)
      (0 + (binI .sub .i64 (F [[a], [(n : Int)]]) a).toNat) (((n : Nat) : Int).toNat - (binI .sub .i64 (F [[a], [(n : Int)]]) a).toNat)) := by kernel_rfl
noncomputable def cLOut (F M : List (List Int) → Int) (B : List (List Int) → List Int) : Cfg := cfgM [] [pWinV F M] [qLBV B] [] []
def loutR (B1 : List Int) (F1 s : Int) (o n : Nat) : R2 :=
  needR [0 ≤ F1, F1 ≤ s, s ≤ (B1.length : Int)] (.br (decide (n = 0)) (.leaf (.p (.c .e)) [0] []) (needR [o + n ≤ B1.length, 0 < (partQ B1 o n).length, lenP ([] ++ partQ B1 o n)] (leafL ([] ++ partQ B1 o n) 9)))
theorem run_LOut (F M : List (List Int) → Int) (B : List (List Int) → List Int) (f : Nat → Int) (a n : Int) :
  (callA (cLOut F M B) true 1000 Tryd.f33 [.agg ((tab 25 f).map (.si .u64)), .one (.si .i64 a), .one (.si .i64 n)] (memX gdM [.gone, .gone, .gone, .gone, .gone, .gone])).view =
    loutR (B [tab 25 f]) (F [[a], [n]]) (binI .add .i64 (F [[a], [n]]) (M [[a], [n]])) (0 + (F [[a], [n]]).toNat) ((binI .add .i64 (F [[a], [n]]) (M [[a], [n]])).toNat - (F [[a], [n]]).toNat) := by kernel_rfl
def wF (l : List (List Int)) : Int := winF (one l 0) (one l 1)
def wM (l : List (List Int)) : Int := winM (one l 0) (one l 1)
theorem win_bad {a n : Int} (h : winBad a n = true) : winF a n = 0 ∧ winM a n = 0 := by unfold winF winM; rw [h]; exact ⟨rfl, rfl⟩
theorem win_good {a n : Int} (h : winBad a n = false) : winF a n = max a 0 ∧ winM a n = min (n - (max a 0 - a)) (200 - max a 0) := by unfold winF winM; rw [h]; exact ⟨rfl, rfl⟩
theorem mmI_maxI (a b : Int) : mmI false a b = max a b := by
  show iteI (decide (b > a)) b a = _
  by_cases h : b > a
  · rw [decide_eq_true h]; show b = _; omega
  · rw [decide_eq_false h]; show a = _; omega
theorem mmI_minI (a b : Int) : mmI true a b = min a b := by
  show iteI (decide (b < a)) b a = _
  by_cases h : b < a
  · rw [decide_eq_true h]; show b = _; omega
  · rw [decide_eq_false h]; show a = _; omega
theorem ps_window : PSOk cM (pWinV wF wM).1 (pWinV wF wM).2 :=
  upP (psok_e (C := cM) (cokM mem0 mem0 mem0 mem0) rfl rfl fn_window (by kernel_rfl) 1000 (fun fs => [.one (.si .i64 (fs 0 0)), .one (.si .i64 (fs 1 0))]) (fun _ => rfl) fun fs h _ => ⟨_, run_window _ _, by
    have ha := of_ok64 (h.1.2 (fs 0 0) (by simp [tab, Sh.len]))
    have hn := of_ok64 (h.2.1.2 (fs 1 0) (by simp [tab, Sh.len]))
    show Out.sat (fun v _ => v.flat = true ∧ ∀ val, v.R (fun _ => 0) 0 val → (GR.mk false (.t [.w .i64 (winF (fs 0 0) (fs 1 0)), .w .i64 (winM (fs 0 0) (fs 1 0))])).R (fun _ => 0) 0 val) _
    generalize fs 0 0 = a at *
    generalize fs 1 0 = n at *
    have bad : winBad a n = true → Out.sat (fun v _ => v.flat = true ∧ ∀ val, v.R (fun _ => 0) 0 val → (GR.mk false (.t [.w .i64 (winF a n), .w .i64 (winM a n)])).R (fun _ => 0) 0 val) (.done (.tup [.one (.li .i64 0), .one (.li .i64 0)]) Mem.empty) := fun hb => by
      rw [(win_bad hb).1, (win_bad hb).2]
      exact sat_sym rfl rfl
    refine ⟨fun h1 => bad ?_, fun h1 => ⟨fun h2 => bad ?_, fun h2 => ⟨fun h3 => bad ?_, fun h3 => ?_⟩⟩⟩
    · have h1 : n ≤ 0 := of_decide_eq_true h1
      simp [winBad, h1]
    · have h2 : a ≥ 200 := of_decide_eq_true h2
      simp [winBad, h2]
    all_goals
      have h1 : ¬ n ≤ 0 := of_decide_eq_false h1
      have h2 : ¬ a ≥ 200 := of_decide_eq_false h2
      have hneg : unI UnOp.neg .i64 n = -n := by
        show IntKind.i64.wrap (0 - n) = _
        rw [wrap_ok (ok64 (by omega) (by omega))]; omega
    · have h3 : a ≤ unI UnOp.neg .i64 n := of_decide_eq_true h3
      rw [hneg] at h3
      simp [winBad, h3]
    · have h3 : ¬ a ≤ unI UnOp.neg .i64 n := of_decide_eq_false h3
      rw [hneg] at h3
      have hg := win_good (a := a) (n := n) (by simp [winBad]; omega)
      rw [hg.1, hg.2, mmI_maxI, mmI_minI]
      have e1 : binI .sub .i64 (max a 0) a = max a 0 - a := by
        show IntKind.i64.wrap _ = _
        rw [wrap_ok (ok64 (by omega) (by omega))]
      have e2 : binI .sub .i64 n (max a 0 - a) = n - (max a 0 - a) := by
        show IntKind.i64.wrap _ = _
        rw [wrap_ok (ok64 (by omega) (by omega))]
      have e3 : binI .sub .i64 200 (max a 0) = 200 - max a 0 := by
        show IntKind.i64.wrap _ = _
        rw [wrap_ok (ok64 (by omega) (by omega))]
      rw [e1, e2, e3]
      exact sat_same rfl⟩)
def xorAt (B : List Int) (a : Nat) (M : List Int) : List Int := B.take a ++ xorB (B.drop a) M ++ B.drop (a + M.length)
theorem win_in {a n : Int} (h0 : 0 ≤ a) (h1 : 1 ≤ n) (h2 : a + n ≤ 200) : winF a n = a ∧ winM a n = n := by
  have := win_good (a := a) (n := n) (by simp [winBad]; omega)
  rw [this.1, this.2]; omega
def Xn (l : List (List Int)) (i : Nat) : Int := leAt (xorAt (leL (l.getD 0 [])) (one l 1).toNat (l.getD 2 [])) (8 * i)
def lxorA (l : List (List Int)) : List Int := tab 25 (Xn l)
noncomputable def q_LXor := (29, fsum [.one (.l .u64 25), .one (.w .i64), .one (.s .u8)] (fun l => [0 ≤ one l 1, 1 ≤ (l.getD 2 []).length, one l 1 + ((l.getD 2 []).length : Int) ≤ 200]) fun l => .one (.p (.g ((lxorA l).map (.i .u64)))))
theorem xorAt_len {B M : List Int} {a : Nat} (h : a + M.length ≤ B.length) : (xorAt B a M).length = B.length := by
  simp only [xorAt, List.length_append, List.length_take, List.length_drop, xorB_len]; omega
def oLOf (l : List (List Int)) (i : Nat) : Int := leAt (l.getD 0 []) (8 * i)
theorem leafG_sat {L : List Int} (h : L.length = 25) : (leafG L).sat (RS.met (.p (.g (L.map (.i .u64))))) := by
  refine ⟨rfl, ?_, List.nodup_nil⟩
  have := lenOk_is (k := .u64) L
  rw [h] at this
  exact this
theorem qs_LXor : FOk cM q_LXor.1 q_LXor.2 :=
  upM (fok_view (C := cLXor wF wM (fun l => leL (l.getD 0 [])) (fun l => decide (xorB (l.getD 0 []) (l.getD 1 []) = [])) (fun l => xorB (l.getD 0 []) (l.getD 1 [])) (fun l => decide ((l.getD 0 []).length = 200)) oLOf) (shs := [.one (.l .u64 25), .one (.w .i64), .one (.s .u8)]) (T := fun l => .one (.p (.g ((lxorA l).map (.i .u64)))))
    (conds := fun l => [0 ≤ one l 1, 1 ≤ (l.getD 2 []).length, one l 1 + ((l.getD 2 []).length : Int) ≤ 200]) (cokM mem0 (mem1 ps_window) (memc qs_LBytes (memc qs_LXor8 (mem1 qs_LOf))) mem0) rfl rfl fn_LXor (by kernel_rfl) 1000 fun Ms hok hp =>
    ⟨_, run_LXor _ _ _ _ _ _ _ (fun i => (Ms 0).getD i 0) ((Ms 1).getD 0 0) (Ms 2).length (Ms 2), by
      have hA : (Ms 0).length = 25 := hok.1.1
      have h1 : 0 ≤ (Ms 1).getD 0 0 := hp.1
      have h2 : 1 ≤ (Ms 2).length := hp.2.1
      have h3 : (Ms 1).getD 0 0 + ((Ms 2).length : Int) ≤ 200 := hp.2.2.1
      rw [tab_self hA]
      show R2.sat (RS.met (.p (.g ((ofL (xorAt (leL (Ms 0)) ((Ms 1).getD 0 0).toNat (Ms 2))).map (.i .u64))))) _
      have hB : (leL (Ms 0)).length = 200 := by rw [leL_len, hA]
      generalize Ms 0 = A at *
      generalize Ms 2 = M at *
      generalize ha : (Ms 1).getD 0 0 = a at *
      obtain ⟨k, rfl⟩ : ∃ k : Nat, a = (k : Int) := ⟨a.toNat, by omega⟩
      have hw := win_in (a := (k : Int)) (n := (M.length : Int)) (by omega) (by omega) (by omega)
      have hF : wF [[(k : Int)], [(M.length : Int)]] = (k : Int) := hw.1
      have hM : wM [[(k : Int)], [(M.length : Int)]] = (M.length : Int) := hw.2
      show R2.sat _ (.br (cmpI .eql (wM [[(k : Int)], [(M.length : Int)]]) 0) (leafG A) (lxorR _ _ _ _ (leL A) (wF [[(k : Int)], [(M.length : Int)]]) (binI .add .i64 (wF [[(k : Int)], [(M.length : Int)]]) (wM [[(k : Int)], [(M.length : Int)]])) (binI .sub .i64 (wF [[(k : Int)], [(M.length : Int)]]) (k : Int)) M.length M
        (0 + (wF [[(k : Int)], [(M.length : Int)]]).toNat) ((((leL A).length : Nat) : Int).toNat - (wF [[(k : Int)], [(M.length : Int)]]).toNat) (0 + (wF [[(k : Int)], [(M.length : Int)]]).toNat) ((binI .add .i64 (wF [[(k : Int)], [(M.length : Int)]]) (wM [[(k : Int)], [(M.length : Int)]])).toNat - (wF [[(k : Int)], [(M.length : Int)]]).toNat)
        (0 + (binI .sub .i64 (wF [[(k : Int)], [(M.length : Int)]]) (k : Int)).toNat) (((M.length : Nat) : Int).toNat - (binI .sub .i64 (wF [[(k : Int)], [(M.length : Int)]]) (k : Int)).toNat)))
      rw [hF, hM]
      have e1 : binI .add .i64 (k : Int) (M.length : Int) = ((k + M.length : Nat) : Int) := by
        show IntKind.i64.wrap _ = _
        rw [wrap_ok (ok64 (by omega) (by omega))]; omega
      have e2 : binI .sub .i64 (k : Int) (k : Int) = ((0 : Nat) : Int) := by
        show IntKind.i64.wrap _ = _
        rw [wrap_ok (ok64 (by omega) (by omega))]; omega
      rw [e1, e2]
      simp only [Int.toNat_natCast, Nat.zero_add, Nat.sub_zero, Nat.add_sub_cancel_left]
      refine ⟨fun h => absurd (of_decide_eq_true (p := (M.length : Int) = 0) (by simpa [cmpI] using h)) (by omega), fun _ => ?_⟩
      have hp1 : partQ (leL A) k M.length = ((leL A).drop k).take M.length := by unfold partQ; split <;> simp
      have hp2 : partQ M 0 M.length = M := partQ_all _
      unfold lxorR
      rw [hp1, hp2]
      have hx : xorB (((leL A).drop k).take M.length) M = xorB ((leL A).drop k) M := by rw [xorB_take, List.take_of_length_le (by rw [xorB_len]; omega)]
      have hxl : (xorB ((leL A).drop k) M).length = M.length := by rw [xorB_len, List.length_drop]; omega
      refine needR_sat ⟨by omega, by omega, by omega, by omega, by omega, by omega, by omega, by omega, by omega, by omega, by omega, by unfold bigLen; omega, trivial⟩ ?_
      show R2.sat _ (.br (decide (xorB (((leL A).drop k).take M.length) M = [])) _ (.need (0 + (xorB (((leL A).drop k).take M.length) M).length ≤ (xorB (((leL A).drop k).take M.length) M).length) (lcopR (leL A) (partQ (xorB (((leL A).drop k).take M.length) M) 0 (xorB (((leL A).drop k).take M.length) M).length) k ((leL A).length - k) _ _)))
      rw [hx, partQ_all]
      refine ⟨fun h => ?_, fun _ => ⟨by omega, ?_⟩⟩
      · have h : xorB ((leL A).drop k) M = [] := of_decide_eq_true h
        rw [h] at hxl
        simp at hxl; omega
      · unfold lcopR
        refine needR_sat ⟨by omega, by omega, trivial⟩ ?_
        have hR : (leL A).take k ++ (xorB ((leL A).drop k) M).take ((leL A).length - k) ++ (leL A).drop (k + min (xorB ((leL A).drop k) M).length ((leL A).length - k)) = xorAt (leL A) k M := by
          unfold xorAt
          rw [List.take_of_length_le (l := xorB ((leL A).drop k) M) (by omega), show min (xorB ((leL A).drop k) M).length ((leL A).length - k) = M.length by omega]
        rw [hR]
        have hlen : (xorAt (leL A) k M).length = (leL A).length := xorAt_len (by omega)
        unfold lofR
        rw [show partQ (xorAt (leL A) k M) 0 (leL A).length = xorAt (leL A) k M from by rw [← hlen]; exact partQ_all _]
        refine ⟨by omega, fun _ => ?_, fun h => ?_⟩
        · show (leafG (ofL (xorAt (leL A) k M))).sat _
          exact leafG_sat (by simp [ofL])
        · have h : ¬ (xorAt (leL A) k M).length = 200 := of_decide_eq_false h
          omega⟩)
def On (l : List (List Int)) (i : Nat) : Int := ((leL (l.getD 0 [])).drop (one l 1).toNat).getD i 0
theorem take_tab {L : List Int} {m : Nat} (h : m ≤ L.length) : L.take m = tab m fun i => L.getD i 0 := by
  apply List.ext_getElem
  · simp [tab]; omega
  · intro i h1 h2
    simp [tab] at h1 h2 ⊢
    rw [List.getElem?_eq_getElem (by omega)]; rfl
def outL (l : List (List Int)) : List Int := tab (one l 2).toNat (On l)
noncomputable def q_LOut := (33, fsum [.one (.l .u64 25), .one (.w .i64), .one (.w .i64)] (fun l => [0 ≤ one l 1, 1 ≤ one l 2, one l 1 + one l 2 ≤ 200]) fun l => .one (.p (.c (.s 5 .u8 (outL l)))))
theorem qs_LOut : FOk cM q_LOut.1 q_LOut.2 :=
  upM (fok_view (C := cLOut wF wM (fun l => leL (l.getD 0 []))) (shs := [.one (.l .u64 25), .one (.w .i64), .one (.w .i64)]) (T := fun l => .one (.p (.c (.s 5 .u8 (outL l)))))
    (conds := fun l => [0 ≤ one l 1, 1 ≤ one l 2, one l 1 + one l 2 ≤ 200]) (cokM mem0 (mem1 ps_window) (mem1 qs_LBytes) mem0) rfl rfl fn_LOut (by kernel_rfl) 1000 fun Ms hok hp =>
    ⟨_, run_LOut _ _ _ (fun i => (Ms 0).getD i 0) ((Ms 1).getD 0 0) ((Ms 2).getD 0 0), by
      have hA : (Ms 0).length = 25 := hok.1.1
      have h1 : 0 ≤ (Ms 1).getD 0 0 := hp.1
      have h2 : 1 ≤ (Ms 2).getD 0 0 := hp.2.1
      have h3 : (Ms 1).getD 0 0 + (Ms 2).getD 0 0 ≤ 200 := hp.2.2.1
      rw [tab_self hA]
      show R2.sat _ (loutR (leL (Ms 0)) _ _ _ _)
      show R2.sat (RS.met (.p (.c (.s 5 .u8 (tab ((Ms 2).getD 0 0).toNat fun i => ((leL (Ms 0)).drop ((Ms 1).getD 0 0).toNat).getD i 0))))) _
      have hB : (leL (Ms 0)).length = 200 := by rw [leL_len, hA]
      generalize leL (Ms 0) = B at *
      generalize (Ms 1).getD 0 0 = a at *
      generalize (Ms 2).getD 0 0 = n at *
      obtain ⟨k, rfl⟩ : ∃ k : Nat, a = (k : Int) := ⟨a.toNat, by omega⟩
      obtain ⟨m, rfl⟩ : ∃ m : Nat, n = (m : Int) := ⟨n.toNat, by omega⟩
      have hw := win_in (a := (k : Int)) (n := (m : Int)) (by omega) (by omega) (by omega)
      have hF : wF [[(k : Int)], [(m : Int)]] = (k : Int) := hw.1
      have hM : wM [[(k : Int)], [(m : Int)]] = (m : Int) := hw.2
      rw [hF, hM]
      have e1 : binI .add .i64 (k : Int) (m : Int) = ((k + m : Nat) : Int) := by
        show IntKind.i64.wrap _ = _
        rw [wrap_ok (ok64 (by omega) (by omega))]; omega
      rw [e1]
      simp only [Int.toNat_natCast, Nat.zero_add, Nat.add_sub_cancel_left]
      have hp1 : partQ B k m = (B.drop k).take m := by unfold partQ; split <;> simp
      have hl : ((B.drop k).take m).length = m := by rw [List.length_take, List.length_drop]; omega
      unfold loutR
      rw [hp1, List.nil_append, ← take_tab (L := B.drop k) (m := m) (by rw [List.length_drop]; omega)]
      refine needR_sat ⟨by omega, by omega, by omega, trivial⟩ ⟨fun h => absurd (of_decide_eq_true h) (by omega), fun _ => needR_sat ⟨by omega, by omega, lenP_of (by omega), trivial⟩ (leafL_sat rfl)⟩⟩)
end Go.Proofs.YtmiongjabbpmkaaDoor

namespace Go.Proofs.YtmiongjabbpmkaaDoor
open Go Go.Ax
set_option linter.unusedSectionVars false
variable [JW]
def offs : List Int := [0, 1, 62, 28, 27, 36, 44, 6, 55, 20, 3, 10, 43, 25, 39, 41, 45, 15, 21, 8, 18, 2, 61, 56, 14]
def rcs : List Int := [1, 32898, 9223372036854808714, 9223372039002292224, 32907, 2147483649, 9223372039002292353, 9223372036854808585, 138, 136, 2147516425, 2147483658, 2147516555, 9223372036854775947, 9223372036854808713, 9223372036854808579, 9223372036854808578, 9223372036854775936, 32778, 9223372039002259466, 9223372039002292353, 9223372036854808704, 2147483649, 9223372039002292232]
def gdA : List (Nat × List SV) := [(1, offs.map (.li .i64)), (2, rcs.map (.li .u64))]
noncomputable abbrev cfg (fns : List (Nat × Func)) (ps : PSs) : Cfg := cfgP Tryd.prog JW.J gdA false 2 [] fns ps [] [] [] []
theorem cok {fns : List (Nat × Func)} {ps : PSs} (h1 : ∀ p ∈ fns, FnOk Tryd.prog p.1 p.2) (h2 : ∀ p ∈ ps, PSOk (cfg [] []) p.1 p.2) : COk (cfg fns ps) := cokP mixedM JW.hJ h1 h2 mem0 mem0 mem0
theorem up {fns : List (Nat × Func)} {ps : PSs} {g : Nat} {F : List AV → Mem → Option (List Cnd × AV)} (h : PSOk (cfg fns ps) g F) : PSOk (cfg [] []) g F := upPP h
noncomputable abbrev cfgS (fns : List (Nat × Func)) (ps : PSs) (sp : SPs) : Cfg := cfgP Tryd.prog JW.J gdA false 2 [] fns ps [] [] sp []
theorem cokS {fns : List (Nat × Func)} {ps : PSs} {sp : SPs} (h1 : ∀ p ∈ fns, FnOk Tryd.prog p.1 p.2) (h2 : ∀ p ∈ ps, PSOk (cfg [] []) p.1 p.2) : COk (cfgS fns ps sp) := cokP mixedM JW.hJ h1 h2 mem0 mem0 mem0
theorem tmod_if (x : Int) {n : Int} : x.tmod n = if 0 ≤ x then x % n else -((-x) % n) := by
  split
  · exact Int.tmod_eq_emod_of_nonneg (by assumption)
  · have h : 0 ≤ -x := by omega
    have h1 := Int.tmod_eq_emod_of_nonneg (b := n) h
    rw [Int.neg_tmod] at h1
    omega
theorem add64 {a b : Int} (h1 : -9223372036854775808 ≤ a + b) (h2 : a + b ≤ 9223372036854775807) : binI .add .i64 a b = a + b := wrap_ok (ok64 h1 h2)
theorem mul64 {a b : Int} (h1 : -9223372036854775808 ≤ a * b) (h2 : a * b ≤ 9223372036854775807) : binI .mul .i64 a b = a * b := wrap_ok (ok64 h1 h2)
theorem rem64 {a b : Int} : binI .rem .i64 a b = a.tmod b := rfl
def atI (x y : Int) : Int := x % 5 + 5 * (y % 5)
theorem at_eq (x y : Int) : binI .add .i64 (binI .rem .i64 (binI .add .i64 (binI .rem .i64 x 5) 5) 5) (binI .mul .i64 5 (binI .rem .i64 (binI .add .i64 (binI .rem .i64 y 5) 5) 5)) = atI x y := by
  have key : ∀ z : Int, binI .rem .i64 (binI .add .i64 (binI .rem .i64 z 5) 5) 5 = z % 5 := fun z => by
    rw [rem64, rem64, tmod_if z]
    have h : -4 ≤ (if 0 ≤ z then z % 5 else -(-z % 5)) ∧ (if 0 ≤ z then z % 5 else -(-z % 5)) ≤ 4 := by split <;> omega
    rw [add64 (by omega) (by omega), tmod_if]
    split <;> split <;> omega
  rw [key, key, mul64 (by omega) (by omega), add64 (by omega) (by omega)]
  rfl
def T_at : List (List Int) → GR := fun l => .p (.w .i64 (atI (one l 0) (one l 1)))
def p_at := (97, gsum [.w .i64, .w .i64] (fun _ => []) T_at)
theorem fn_at : FnOk Tryd.prog 97 Tryd.f97 := ⟨Tryd.func97, by kernel_rfl⟩
theorem run_at (x y : Int) : callA (cfg [] []) false 100 Tryd.f97 [.one (.si .i64 x), .one (.si .i64 y)] (memG gdA) =
    .done (.one (.si .i64 (binI .add .i64 (binI .rem .i64 (binI .add .i64 (binI .rem .i64 x 5) 5) 5) (binI .mul .i64 5 (binI .rem .i64 (binI .add .i64 (binI .rem .i64 y 5) 5) 5))))) Mem.empty := by kernel_rfl
theorem ps_at : PSOk (cfg [] []) p_at.1 p_at.2 :=
  psok_e (cok (by simp) (by simp)) rfl rfl fn_at rfl 100 (fun fs => [.one (.si .i64 (fs 0 0)), .one (.si .i64 (fs 1 0))]) (fun _ => rfl) fun fs _ _ => ⟨_, run_at (fs 0 0) (fs 1 0), sat_same (by rw [at_eq]; rfl)⟩
end Go.Proofs.YtmiongjabbpmkaaDoor

namespace Go.Proofs.YtmiongjabbpmkaaDoor
open Go Go.Ax
set_option linter.unusedSectionVars false
variable [JW]
theorem atI_range (x y : Int) : 0 ≤ atI x y ∧ atI x y < 25 := by unfold atI; omega
def T_Offset : List (List Int) → GR := fun l => .p (.w .i64 (sel offs (atI (one l 0) (one l 1))))
def p_Offset := (86, gsum [.w .i64, .w .i64] (fun _ => []) T_Offset)
theorem fn_Offset : FnOk Tryd.prog 86 Tryd.f86 := ⟨Tryd.func86, by kernel_rfl⟩
theorem run_Offset (x y : Int) : callA (cfg [] [p_at]) false 100 Tryd.f86 [.one (.si .i64 x), .one (.si .i64 y)] (memG gdA) =
    .need (0 ≤ atI x y) (.need (atI x y < 25) (.need (0 ≤ atI x y) (.need (atI x y < 25) (.done (.one (.si .i64 (sel offs (atI x y)))) Mem.empty)))) := by kernel_rfl
theorem ps_Offset : PSOk (cfg [] []) p_Offset.1 p_Offset.2 :=
  up (psok_e (C := cfg [] [p_at]) (cok (by simp) (by simp [ps_at])) rfl rfl fn_Offset rfl 100 (fun fs => [.one (.si .i64 (fs 0 0)), .one (.si .i64 (fs 1 0))]) (fun _ => rfl) fun fs _ _ =>
    have h := atI_range (fs 0 0) (fs 1 0)
    ⟨_, run_Offset (fs 0 0) (fs 1 0), h.1, h.2, h.1, h.2, sat_same rfl⟩)
theorem fn_Constant : FnOk Tryd.prog 88 Tryd.f88 := ⟨Tryd.func88, by kernel_rfl⟩
end Go.Proofs.YtmiongjabbpmkaaDoor

namespace Go.Proofs.YtmiongjabbpmkaaDoor
open Go Go.Ax
set_option linter.unusedSectionVars false
variable [JW]
def nth (es : List Int) (i : Nat) : Int := es.getD i 0
def xo (a b : Int) : Int := binI .xor .u64 a b
def L25 (es : List Int) : AV := .agg (es.map (.si .u64))
def row0 (l : List (List Int)) : List Int := l.getD 0 []
def piL (es : List Int) : List Int := tab 25 fun i => nth es ((i % 5 + 3 * (i / 5)) % 5 + 5 * (i % 5))
def chiL (es : List Int) : List Int := tab 25 fun i => xo (nth es i) (binI .andNot .u64 (nth es (5 * (i / 5) + (i % 5 + 2) % 5)) (nth es (5 * (i / 5) + (i % 5 + 1) % 5)))
end Go.Proofs.YtmiongjabbpmkaaDoor

namespace Go.Proofs.YtmiongjabbpmkaaDoor
open Go Go.Ax
set_option linter.unusedSectionVars false
variable [JW]
theorem and63_i64 (n : Int) : binI .and .i64 n 63 = n % 64 := by
  show IntKind.i64.wrap ((BitVec.ofInt 64 n &&& BitVec.ofInt 64 63).toNat : Int) = _
  have e : (BitVec.ofInt 64 n &&& BitVec.ofInt 64 63).toNat = (n % 64).toNat := by
    rw [BitVec.toNat_and, show (BitVec.ofInt 64 63).toNat = 2 ^ 6 - 1 from by decide, Nat.and_two_pow_sub_one_eq_mod, BitVec.toNat_ofInt]
    omega
  rw [e]
  have : ((n % 64).toNat : Int) = n % 64 := by omega
  rw [this]
  exact wrap_ok (ok64 (by omega) (by omega))
theorem and63_u64 (n : Int) : binI .and .u64 n 63 = n % 64 := by
  show IntKind.u64.wrap ((BitVec.ofInt 64 n &&& BitVec.ofInt 64 63).toNat : Int) = _
  have e : (BitVec.ofInt 64 n &&& BitVec.ofInt 64 63).toNat = (n % 64).toNat := by
    rw [BitVec.toNat_and, show (BitVec.ofInt 64 63).toNat = 2 ^ 6 - 1 from by decide, Nat.and_two_pow_sub_one_eq_mod, BitVec.toNat_ofInt]
    omega
  rw [e]
  have : ((n % 64).toNat : Int) = n % 64 := by omega
  rw [this]
  exact wrap_ok (u64_ok (by omega) (by omega))
def rot (x n : Int) : Int := nb ((bv x).rotateRight (n % 64).toNat)
theorem turn_eq {x n : Int} (hx : okI .u64 x) :
    binI .or .u64 (binI .shl .u64 x (binI .and .u64 (IntKind.u64.wrap (unI .neg .i64 (binI .and .i64 n 63))) 63)) (binI .shr .u64 x (binI .sub .u64 64 (binI .and .u64 (IntKind.u64.wrap (unI .neg .i64 (binI .and .i64 n 63))) 63))) = rot x n := by
  rw [and63_i64]
  have e1 : unI .neg .i64 (n % 64) = -(n % 64) := by
    show IntKind.i64.wrap (0 - n % 64) = _
    rw [wrap_ok (ok64 (by omega) (by omega))]; omega
  have e2 : binI .and .u64 (IntKind.u64.wrap (-(n % 64))) 63 = (-(n % 64)) % 64 := by
    rw [and63_u64]
    simp only [IntKind.wrap, IntKind.bits, IntKind.signed, Bool.false_and, Bool.false_eq_true, if_false]
    omega
  rw [e1, e2]
  have hm := Int.emod_nonneg n (show (64 : Int) ≠ 0 by decide)
  have hm2 := Int.emod_lt_of_pos n (show (0 : Int) < 64 by decide)
  have e3 : binI .sub .u64 64 ((-(n % 64)) % 64) = 64 - (-(n % 64)) % 64 := by
    show IntKind.u64.wrap _ = _
    exact wrap_ok (u64_ok (by omega) (by omega))
  rw [e3]
  unfold rot
  rw [BitVec.rotateRight_def]
  by_cases h : n % 64 = 0
  · rw [h]
    have s1 : (-(0 : Int)) % 64 = ((0 : Nat) : Int) := by decide
    have s2 : (64 : Int) - ((0 : Nat) : Int) = ((64 : Nat) : Int) := by decide
    rw [s1, s2, shl_nb, shr_nb hx, or_nb, bv_nb, bv_nb]
    congr 1
    simp [BitVec.shiftLeft_eq_zero, BitVec.ushiftRight_eq_zero]
  · obtain ⟨m, hmn⟩ : ∃ m : Nat, n % 64 = (m : Int) := ⟨(n % 64).toNat, by omega⟩
    have hm3 : 0 < m ∧ m < 64 := by omega
    rw [hmn]
    have s1 : (-(m : Int)) % 64 = ((64 - m : Nat) : Int) := by omega
    have s2 : (64 : Int) - ((64 - m : Nat) : Int) = (m : Int) := by omega
    rw [s1, s2, shl_nb, shr_nb hx, or_nb, bv_nb, bv_nb]
    congr 1
    rw [Int.toNat_natCast, Nat.mod_eq_of_lt hm3.2, BitVec.or_comm]
def T_Turn : List (List Int) → GR := fun l => .p (.w .u64 (rot (one l 0) (one l 1)))
def p_Turn := (85, gsum [.w .u64, .w .i64] (fun _ => []) T_Turn)
theorem fn_Rot : FnOk Tryd.prog 96 Tryd.f96 := ⟨Tryd.func96, by kernel_rfl⟩
theorem fn_Turn : FnOk Tryd.prog 85 Tryd.f85 := ⟨Tryd.func85, by kernel_rfl⟩
noncomputable def c_Turn := cfg [(96, Tryd.f96)] []
theorem run_Turn (x n : Int) : callA c_Turn false 1000 Tryd.f85 [.one (.si .u64 x), .one (.si .i64 n)] (memG gdA) = .done (.one (.si .u64
    (binI .or .u64 (binI .shl .u64 x (binI .and .u64 (IntKind.u64.wrap (unI .neg .i64 (binI .and .i64 n 63))) 63)) (binI .shr .u64 x (binI .sub .u64 64 (binI .and .u64 (IntKind.u64.wrap (unI .neg .i64 (binI .and .i64 n 63))) 63)))))) Mem.empty := by kernel_rfl
theorem ps_Turn : PSOk (cfg [] []) p_Turn.1 p_Turn.2 :=
  up (psok_e (C := c_Turn) (cok (by simp [fn_Rot]) (by simp)) rfl rfl fn_Turn rfl 1000 (fun fs => [.one (.si .u64 (fs 0 0)), .one (.si .i64 (fs 1 0))]) (fun _ => rfl) fun fs h _ =>
    ⟨_, run_Turn (fs 0 0) (fs 1 0), sat_same (by rw [turn_eq (h.1.2 _ (by simp [tab, Sh.len]))]; rfl)⟩)
def colI (es : List Int) (x : Int) : Int := xo (xo (xo (xo (sel es (atI x 0)) (sel es (atI x 1))) (sel es (atI x 2))) (sel es (atI x 3))) (sel es (atI x 4))
def thetaL (es : List Int) : List Int := tab 25 fun i => xo (nth es i) (xo (colI es ((i % 5 : Nat) - 1)) (rot (colI es ((i % 5 : Nat) + 1)) (-1)))
def rhoL (es : List Int) : List Int := tab 25 fun i => rot (nth es i) (-(sel offs (i : Int)))
def rcI (r : Int) : Int := if 0 ≤ r ∧ r < 24 then sel rcs r else 0
def T_Constant : List (List Int) → GR := fun l => .p (.w .u64 (rcI (one l 0)))
def p_Constant := (88, gsum [.w .i64] (fun _ => []) T_Constant)
theorem run_Constant (r : Int) : callA (cfg [] []) false 1000 Tryd.f88 [.one (.si .i64 r)] (memG gdA) =
    .br (decide (r < 0)) (.done (.one (.li .u64 0)) Mem.empty) (.br (decide (r ≥ 24)) (.done (.one (.li .u64 0)) Mem.empty) (.need (0 ≤ r) (.need (r < 24) (.need (0 ≤ r) (.need (r < 24) (.done (.one (.si .u64 (sel rcs r))) Mem.empty)))))) := by kernel_rfl
theorem ps_Constant : PSOk (cfg [] []) p_Constant.1 p_Constant.2 :=
  psok_e (cok (by simp) (by simp)) rfl rfl fn_Constant rfl 1000 (fun fs => [.one (.si .i64 (fs 0 0))]) (fun _ => rfl) fun fs _ _ => by
    refine ⟨_, run_Constant (fs 0 0), ?_⟩
    have e : one (tabs [.w .i64] 0 fs) 0 = fs 0 0 := rfl
    refine ⟨fun h => ⟨rfl, fun v hv => ?_⟩, fun h => ⟨fun h2 => ⟨rfl, fun v hv => ?_⟩, fun h2 => ?_⟩⟩
    · have h := of_decide_eq_true h
      have : rcI (fs 0 0) = 0 := if_neg (by omega)
      simp only [T_Constant, e, this]
      exact hv
    · have h2 := of_decide_eq_true h2
      have : rcI (fs 0 0) = 0 := if_neg (by omega)
      simp only [T_Constant, e, this]
      exact hv
    · have h := of_decide_eq_false h
      have h2 := of_decide_eq_false h2
      have : rcI (fs 0 0) = sel rcs (fs 0 0) := if_pos (by omega)
      refine ⟨by omega, by omega, by omega, by omega, sat_same ?_⟩
      simp only [T_Constant, e, this]
      rfl
def iotaL (es : List Int) (r : Int) : List Int := tab 25 fun i => match i with | 0 => xo (nth es 0) (rcI r) | i + 1 => nth es (i + 1)
end Go.Proofs.YtmiongjabbpmkaaDoor

namespace Go.Proofs.YtmiongjabbpmkaaDoor
open Go Go.Ax
set_option linter.unusedSectionVars false
variable [JW]
end Go.Proofs.YtmiongjabbpmkaaDoor

namespace Go.Proofs.YtmiongjabbpmkaaDoor
open Go Go.Ax
set_option linter.unusedSectionVars false
variable [JW]
theorem xo0 {z : Int} (h : okI .u64 z) : xo 0 z = z := by
  show binI .xor .u64 0 z = z
  rw [xor_nb]
  have : bv 0 = 0#64 := rfl
  rw [this, BitVec.zero_xor, nb_bv h]
def colG (z : Int → Int) (es : List Int) (x : Int) : Int := xo (xo (xo (xo (z (sel es (atI x 0))) (sel es (atI x 1))) (sel es (atI x 2))) (sel es (atI x 3))) (sel es (atI x 4))
def thetaG (z : Int → Int) (es : List Int) : List Int := tab 25 fun i => xo (nth es i) (xo (colG z es ((i % 5 : Nat) - 1)) (rot (colG z es ((i % 5 : Nat) + 1)) (-1)))
theorem sel_ok {es : List Int} {i : Int} (h : ∀ e ∈ es, okI .u64 e) : okI .u64 (sel es i) := by
  unfold sel
  cases hq : es[i.toNat]? with
  | none => simp [hq]; decide
  | some x => simp [hq]; exact h x (List.mem_of_getElem? hq)
theorem thetaG_0 {es : List Int} (h : ∀ e ∈ es, okI .u64 e) : thetaG (xo 0) es = thetaL es := by
  have e : ∀ x, colG (xo 0) es x = colI es x := fun x => by unfold colG colI; rw [xo0 (sel_ok h)]
  unfold thetaG thetaL
  refine tab_congr fun i _ => ?_
  rw [e, e]
end Go.Proofs.YtmiongjabbpmkaaDoor

namespace Go.Proofs.YtmiongjabbpmkaaDoor
open Go Go.Ax
set_option linter.unusedSectionVars false
variable [JW]
end Go.Proofs.YtmiongjabbpmkaaDoor

namespace Go.Proofs.YtmiongjabbpmkaaDoor
open Go Go.Ax
set_option linter.unusedSectionVars false
variable [JW]
section
variable {A B : List Int}
end
end Go.Proofs.YtmiongjabbpmkaaDoor

namespace Go.Proofs.YtmiongjabbpmkaaDoor
open Go Go.Ax
set_option linter.unusedSectionVars false
variable [JW]
end Go.Proofs.YtmiongjabbpmkaaDoor
