/- Packages load, lane: bytes' exclusive-or; bytes laid into a state, and read. -/
import Derived.Test.YtnghpimihklmdaaDoorZ6
namespace Go.Proofs.YtnghpimihklmdaaDoor
open Go Go.Ax
set_option linter.unusedSectionVars false
variable [JW]

/-! ## Bytes' exclusive-or -/

theorem fn_LXor8 : FnOk Tryd.prog 81 Tryd.f81 := ⟨Tryd.func81, by kernel_rfl⟩
structure IXor where
  t : TypeId
  L : List Int
  M : List Int
  n : Nat
  m : Nat
  len : Int
  i : Int
  fin : List Int
def bl_xor (t : TypeId) (L M : List Int) : List AB := [.seq t .u8 L 1, .gone, .rseq .u8 M 3, .gone]
def St_xor (x : IXor) : LS := ⟨[(5, .one (.sq 0 1 0 x.n)), (1, .one (.slr 2 3 0 x.m)), (16, .one (.si .i64 x.len)), (17, .one (.si .i64 x.i))], bl_xor x.t x.L x.M⟩
noncomputable def bd_xor : Code := loopAt Tryd.f81 0
/-- Two lists' exclusive-or, as far as both go. -/
def xorB : List Int → List Int → List Int
  | a :: L, b :: M => binI .xor .u8 a b :: xorB L M
  | _, _ => []
theorem xorB_len : ∀ {L M : List Int}, (xorB L M).length = min L.length M.length
  | [], _ => by simp [xorB]
  | _ :: _, [] => by simp [xorB]
  | _ :: L, _ :: M => by simp [xorB, xorB_len (L := L) (M := M)]
theorem xorB_get : ∀ {L M : List Int} {i : Nat}, i < L.length → i < M.length → (xorB L M)[i]? = some (binI .xor .u8 (L.getD i 0) (M.getD i 0))
  | a :: L, b :: M, 0, _, _ => rfl
  | a :: L, b :: M, i + 1, h1, h2 => by
    have := xorB_get (L := L) (M := M) (i := i) (by simpa using h1) (by simpa using h2)
    simpa [xorB] using this
def pi_xor (s : LS) : Option IXor := match s with
  | ⟨[(5, .one (.sq 0 1 0 n)), (1, .one (.slr 2 3 0 m)), (16, y), (17, z)], [.seq t .u8 L 1, .gone, .rseq .u8 M 3, .gone]⟩ => match i64? y, i64? z with
    | some len, some i => some ⟨t, L, M, n, m, len, i, xorB L M⟩
    | _, _ => none
  | _ => none
theorem pi_xor_fits (s : LS) (x : IXor) (h : pi_xor s = some x) : s.fits (St_xor x) := by
  unfold pi_xor at h
  split at h
  · split at h
    · rename_i len i h1 h2
      cases h
      exact ⟨⟨rfl, .inl rfl, rfl, .inl rfl, rfl, i64_fits h1, rfl, i64_fits h2, trivial⟩, rfl⟩
    · cases h
  · cases h
theorem run_bd_xor (x : IXor) (X : AE → Option LS → Prop) : exec cM 100 (.run bd_xor) (slots 32 (St_xor x).sl) (memX gdM (St_xor x).bl) (endX 0 32 [5, 1, 16, 17] [.fix 0, .fix 1, .fix 2, .fix 3] [false, false, false, false] X) =
    .br (cmpI .lss x.i x.len) (.need (0 ≤ x.i) (.need (x.i < x.n) (.need (0 ≤ ((0 : Nat) : Int) + x.i) (.need (((0 : Nat) : Int) + x.i < x.L.length) (.need (0 ≤ x.i) (.need (x.i < x.m) (.need (0 ≤ ((0 : Nat) : Int) + x.i) (.need (((0 : Nat) : Int) + x.i < x.M.length)
      (.need (0 ≤ x.i) (.need (x.i < x.n) (.need (0 ≤ ((0 : Nat) : Int) + x.i) (.need (((0 : Nat) : Int) + x.i < x.L.length) (.need (X .normal (some ⟨[(5, .one (.sq 0 1 0 x.n)), (1, .one (.slr 2 3 0 x.m)), (16, .one (.si .i64 x.len)), (17, .one (.si .i64 (binI .add .i64 x.i 1)))],
        [.seq x.t .u8 (x.L.set (((0 : Nat) : Int) + x.i).toNat (binI .xor .u8 (sel x.L (((0 : Nat) : Int) + x.i)) (sel x.M (((0 : Nat) : Int) + x.i)))) 1, .gone, .rseq .u8 x.M 3, .gone]⟩)) (.done .any Mem.empty)))))))))))))) (.need (X (.exit 0) (some (St_xor x))) (.done .any Mem.empty)) := by kernel_rfl
def ok_xor (x : IXor) : Prop := x.n = x.L.length ∧ x.m = x.M.length ∧ x.len = x.n ∧ x.n ≤ x.m ∧ x.n ≤ 9223372036854775807 ∧ x.i = 0 ∧ x.fin = xorB x.L x.M
def Inv_xor (x : IXor) : Prop := x.n = x.L.length ∧ x.m = x.M.length ∧ x.len = x.n ∧ x.n ≤ x.m ∧ x.n ≤ 9223372036854775807 ∧ ∃ j : Nat, x.i = (j : Int) ∧ j ≤ x.n ∧ x.fin = x.L.take j ++ xorB (x.L.drop j) (x.M.drop j)
def Ex_xor (x : IXor) (e : AE) (s : LS) : Prop := e = .exit 0 ∧ s = ⟨[(5, .one (.sq 0 1 0 x.n))], bl_xor x.t x.fin x.M⟩
noncomputable def F_xor : TM → Mem → Option ((AE → TM → Mem → Out) → Out) := lqF gdM 32 [] [5, 1, 16, 17] [.of 5, .of 1] [false, false, false, false] pi_xor ok_xor fun x k => k (.exit 0) ⟨[(5, .one (.sq 0 1 0 x.n))], bl_xor x.t x.fin x.M⟩
theorem add1 {j : Nat} (h : j ≤ 9223372036854775806) : binI .add .i64 (j : Int) 1 = ((j + 1 : Nat) : Int) := by
  show IntKind.i64.wrap _ = _
  rw [wrap_ok (ok64 (by omega) (by omega))]; omega
theorem lq_xor : LoopQ cM bd_xor F_xor := by
  refine lq_rule (C := cM) (cokM mem0 mem0 mem0 mem0) rfl (n := 100) (ri := [.fix 0, .fix 1, .fix 2, .fix 3]) (St := St_xor) (Inv := Inv_xor) (mu := fun x => (x.n - x.i).toNat) (Ex := Ex_xor) pi_xor_fits (fun x h => ?_) (fun K k x _ hs e s he => ?_) (fun x hI => ?_)
  · obtain ⟨h1, h2, h3, h4, h5, h6, h7⟩ := h
    exact ⟨h1, h2, h3, h4, h5, 0, h6, Nat.zero_le _, by rw [h7]; simp⟩
  · obtain ⟨rfl, rfl⟩ := he
    exact hs
  · show Out.sat (fun _ _ => True) (exec cM 100 (.run bd_xor) (slots 32 (St_xor x).sl) (memX gdM (St_xor x).bl) (endX 0 32 [5, 1, 16, 17] [.fix 0, .fix 1, .fix 2, .fix 3] [false, false, false, false] _))
    rw [run_bd_xor]
    obtain ⟨t, L, M, n, m, len, i, fin⟩ := x
    obtain ⟨h1, h2, h3, h4, h5, j, h6, h7, h8⟩ := hI
    dsimp only at h1 h2 h3 h4 h5 h6 h7 h8 ⊢
    subst h1 h2 h3 h6
    refine ⟨fun hc => ?_, fun hc => ⟨⟨_, ⟨rfl, rfl⟩, ⟨rfl, .inl rfl, trivial⟩, ?_⟩, trivial⟩⟩
    · have hc : (j : Int) < L.length := of_decide_eq_true hc
      have hj : j < L.length := by omega
      have hj' : j < M.length := by omega
      refine ⟨by omega, hc, by omega, by omega, by omega, by omega, by omega, by omega, by omega, hc, by omega, by omega, ?_, trivial⟩
      rw [sel_at hj, sel_at hj', show ((((0 : Nat) : Int) + (j : Int)).toNat) = j by omega, add1 (by omega)]
      refine ⟨⟨t, L.set j (binI .xor .u8 L[j] M[j]), M, L.length, M.length, (L.length : Int), ((j + 1 : Nat) : Int), fin⟩, ⟨(by simp), rfl, rfl, h4, h5, j + 1, rfl, hj, ?_⟩, ?_, fun e s' h => h, ⟨rfl, .inl rfl, rfl, .inl rfl, rfl, .inl rfl, rfl, .inl rfl, trivial⟩, rfl⟩
      · show fin = (L.set j _).take (j + 1) ++ xorB ((L.set j _).drop (j + 1)) (M.drop (j + 1))
        rw [h8, List.drop_eq_getElem_cons hj, List.drop_eq_getElem_cons hj', List.drop_set_of_lt (by omega), List.take_succ_eq_append_getElem (by simpa using hj)]
        simp [xorB, List.take_set_of_le]
      · show ((L.length : Int) - ((j + 1 : Nat) : Int)).toNat < ((L.length : Int) - (j : Int)).toNat
        omega
    · have hc : ¬ (j : Int) < L.length := of_decide_eq_false hc
      have : j = L.length := by omega
      subst this
      rw [List.take_length, List.drop_length] at h8
      simp only [xorB, List.append_nil] at h8
      show bl_xor t L M = bl_xor t fin M
      rw [h8]
def qCloneW (E : List (List Int) → Bool) (T : List (List Int) → List Int) := (107, fsum [.one (.s .u8)] (fun l => [(l.getD 0 []).length ≤ bigLen]) fun l => .br (E l) (.one (.p (.c .e))) (.one (.p (.c (.s 5 .u8 (T l))))))
noncomputable def cLX (E : List (List Int) → Bool) (T : List (List Int) → List Int) : Cfg := cfgM [] [] [qCloneW E T] [(3, bd_xor, F_xor)] []
def lxR (E : List (List Int) → Bool) (T : List (List Int) → List Int) (n m : Nat) (L M A : List Int) (k : Int) : R2 :=
  needR [(0 : Int) ≤ 0, 0 ≤ k, k ≤ (n : Int), 0 + k.toNat ≤ L.length, A.length ≤ bigLen] (.br (E [A]) (.leaf (.p (.c .e)) [0] []) (.need (bd_xor = bd_xor) (.need (ok_xor ⟨5, T [A], M, (T [A]).length, m, ((T [A]).length : Int), 0, xorB (T [A]) M⟩)
    (.leaf (.p (.c (.s 5 .u8 (xorB (T [A]) M)))) [(T [A]).length] [4]))))
theorem run_LXor8 (E : List (List Int) → Bool) (T : List (List Int) → List Int) (n m : Nat) (L M : List Int) : (callA (cLX E T) true 1000 Tryd.f81 [.one (.slr 0 1 0 n), .one (.slr 2 3 0 m)] (memX gdM [.rseq .u8 L 1, .gone, .rseq .u8 M 3, .gone])).view =
    lxR E T n m L M (partQ L 0 (mmI true (n : Int) (m : Int)).toNat) (mmI true (n : Int) (m : Int)) := by kernel_rfl
theorem xorB_take : ∀ {L M : List Int} (k : Nat), xorB (L.take k) M = (xorB L M).take k
  | [], _, k => by simp [xorB]
  | _ :: _, [], k => by cases k <;> simp [xorB]
  | _ :: _, _ :: _, 0 => by simp [xorB]
  | a :: L, b :: M, k + 1 => by simp [xorB, xorB_take (L := L) (M := M) k]
theorem mmI_min {n m : Nat} : mmI true (n : Int) (m : Int) = ((min n m : Nat) : Int) := by
  show iteI (decide ((m : Int) < (n : Int))) (m : Int) (n : Int) = _
  by_cases h : (m : Int) < (n : Int)
  · rw [decide_eq_true h]; show (m : Int) = _; omega
  · rw [decide_eq_false h]; show (n : Int) = _; omega
def q_LXor8 := (81, fsum [.one (.s .u8), .one (.s .u8)] (fun l => [min (l.getD 0 []).length (l.getD 1 []).length ≤ bigLen]) fun l => sliceT (xorB (l.getD 0 []) (l.getD 1 [])))
theorem qs_LXor8 : FOk cM q_LXor8.1 q_LXor8.2 :=
  upM (fok_view (C := cLX (fun l => decide (l.getD 0 [] = [])) fun l => l.getD 0 []) (shs := [.one (.s .u8), .one (.s .u8)]) (T := fun l => sliceT (xorB (l.getD 0 []) (l.getD 1 []))) (conds := fun l => [min (l.getD 0 []).length (l.getD 1 []).length ≤ bigLen])
    (cokM mem0 mem0 (mem1 qs_Clone) (mem1 lq_xor)) rfl rfl fn_LXor8 (by kernel_rfl) 1000 fun Ms hok hp =>
    ⟨_, run_LXor8 _ _ (Ms 0).length (Ms 1).length (Ms 0) (Ms 1), by
      have h0 : (Ms 0).length ≤ 9223372036854775807 := hok.1.1
      have hp : min (Ms 0).length (Ms 1).length ≤ bigLen := hp.1
      show R2.sat (RS.met (sliceT (xorB (Ms 0) (Ms 1))).now) _
      generalize Ms 0 = L at *
      generalize Ms 1 = M at *
      rw [mmI_min, show ((min L.length M.length : Nat) : Int).toNat = min L.length M.length from Int.toNat_natCast _]
      have hA : partQ L 0 (min L.length M.length) = L.take (min L.length M.length) := rfl
      rw [hA]
      have hl : (L.take (min L.length M.length)).length = min L.length M.length := by rw [List.length_take]; omega
      have hx : xorB (L.take (min L.length M.length)) M = xorB L M := by rw [xorB_take, List.take_of_length_le (by rw [xorB_len]; exact Nat.le_refl _)]
      refine needR_sat ⟨by omega, by omega, by omega, by omega, by omega, trivial⟩ ⟨fun h => sliceT_e ?_, fun h => ⟨rfl, ⟨rfl, rfl, rfl, ?_, ?_, rfl, rfl⟩, ?_⟩⟩
      · have h : L.take (min L.length M.length) = [] := of_decide_eq_true h
        rw [← hx, h]; simp [xorB]
      · show (L.take (min L.length M.length)).length ≤ M.length
        omega
      · show (L.take (min L.length M.length)).length ≤ 9223372036854775807
        omega
      · have h : ¬ L.take (min L.length M.length) = [] := of_decide_eq_false h
        show RS.met (sliceT (xorB L M)).now (.p (.c (.s 5 .u8 (xorB (L.take (min L.length M.length)) M)))) [(L.take (min L.length M.length)).length] [4]
        rw [hx]
        have hne : xorB L M ≠ [] := fun e => by
          have h1 : (xorB L M).length = 0 := by rw [e]; rfl
          rw [xorB_len] at h1
          exact h (List.eq_nil_of_length_eq_zero (by omega))
        exact met_f (decide_eq_false hne) (met_s (by rw [xorB_len]; omega))⟩)
end Go.Proofs.YtnghpimihklmdaaDoor

/- Package lane: bytes laid into a state, and read. -/
namespace Go.Proofs.YtnghpimihklmdaaDoor
open Go Go.Ax
set_option linter.unusedSectionVars false
variable [JW]

theorem fn_window : FnOk Tryd.prog 80 Tryd.f80 := ⟨Tryd.func80, by kernel_rfl⟩
theorem fn_LXor : FnOk Tryd.prog 48 Tryd.f48 := ⟨Tryd.func48, by kernel_rfl⟩
theorem fn_LOut : FnOk Tryd.prog 52 Tryd.f52 := ⟨Tryd.func52, by kernel_rfl⟩

theorem run_window (a n : Int) : callA cM false 1000 Tryd.f80 [.one (.si .i64 a), .one (.si .i64 n)] (memG gdM) =
    .br (cmpI .leq n (0 : Int)) (.done (.tup [TV.one (.li .i64 (0 : Int)), TV.one (.li .i64 (0 : Int))]) Mem.empty) (.br (cmpI .geq a (200 : Int)) (.done (.tup [TV.one (.li .i64 (0 : Int)), TV.one (.li .i64 (0 : Int))]) Mem.empty) (.br (cmpI .leq a (unI UnOp.neg .i64 n)) (.done (.tup [TV.one (.li .i64 (0 : Int)), TV.one (.li .i64 (0 : Int))]) Mem.empty) (.done (.tup [TV.one (.si .i64 (mmI false a (0 : Int))), TV.one (.si .i64 (mmI true (binI .sub .i64 n (binI .sub .i64 (mmI false a (0 : Int)) a)) (binI .sub .i64 (200 : Int) (mmI false a (0 : Int)))))]) Mem.empty))) := by kernel_rfl
/-! ## The window -/

def winBad (a n : Int) : Bool := decide (n ≤ 0) || (decide (a ≥ 200) || decide (a ≤ -n))
def winF (a n : Int) : Int := iteI (winBad a n) 0 (max a 0)
def winM (a n : Int) : Int := iteI (winBad a n) 0 (min (n - (max a 0 - a)) (200 - max a 0))
def pWinV (F M : List (List Int) → Int) := (80, gsum [.w .i64, .w .i64] (fun _ => []) fun l => .t [.w .i64 (F l), .w .i64 (M l)])
def qLBV (B : List (List Int) → List Int) := (59, fsum [.one (.l .u64 25)] (fun _ => []) fun l => .one (.p (.c (.s 5 .u8 (B l)))))
def qLXV (E : List (List Int) → Bool) (X : List (List Int) → List Int) := (81, fsum [.one (.s .u8), .one (.s .u8)] (fun l => [min (l.getD 0 []).length (l.getD 1 []).length ≤ bigLen]) fun l => .br (E l) (.one (.p (.c .e))) (.one (.p (.c (.s 5 .u8 (X l))))))
def qLOV (B : List (List Int) → Bool) (O : List (List Int) → Nat → Int) := (82, fsum [.one (.s .u8)] (fun _ => []) fun l => .br (B l) (.one (.t [.g ((tab 25 (O l)).map (.i .u64)), .c (.b true)])) (.one (.t [.g (List.replicate 25 (.i .u64 0)), .c (.b false)])))
noncomputable def cLXor (F M : List (List Int) → Int) (B : List (List Int) → List Int) (E : List (List Int) → Bool) (X : List (List Int) → List Int) (G : List (List Int) → Bool) (O : List (List Int) → Nat → Int) : Cfg := cfgM [] [pWinV F M] [qLBV B, qLXV E X, qLOV G O] [] []
def leafG (l : List Int) : R2 := .leaf (.p (.g (l.map (.i .u64)))) (List.replicate 25 0) []
def lofR (B1 R : List Int) (G : List (List Int) → Bool) (O : List (List Int) → Nat → Int) : R2 :=
  .need (0 + B1.length ≤ R.length) (.br (G [partQ R 0 B1.length]) (leafG (tab 25 (O [partQ R 0 B1.length]))) (leafG (List.replicate 25 0)))
def lcopR (B1 M : List Int) (o1 n1 : Nat) (G : List (List Int) → Bool) (O : List (List Int) → Nat → Int) : R2 :=
  needR [o1 + n1 ≤ B1.length, M.length ≤ 9223372036854775807] (lofR B1 (B1.take o1 ++ M.take n1 ++ B1.drop (o1 + min M.length n1)) G O)
def lxorR (E : List (List Int) → Bool) (X : List (List Int) → List Int) (G : List (List Int) → Bool) (O : List (List Int) → Nat → Int) (B1 : List Int) (F1 s d : Int) (n : Nat) (L : List Int) (o1 n1 o2 n2 o3 n3 : Nat) : R2 :=
  needR [0 ≤ F1, F1 ≤ (B1.length : Int), (B1.length : Int) ≤ (B1.length : Int), 0 ≤ F1, F1 ≤ s, s ≤ (B1.length : Int), 0 ≤ d, d ≤ (n : Int), (n : Int) ≤ (n : Int), o2 + n2 ≤ B1.length, o3 + n3 ≤ L.length, min (partQ B1 o2 n2).length (partQ L o3 n3).length ≤ bigLen]
    (.br (E [partQ B1 o2 n2, partQ L o3 n3]) (lcopR B1 [] o1 n1 G O) (.need (0 + (X [partQ B1 o2 n2, partQ L o3 n3]).length ≤ (X [partQ B1 o2 n2, partQ L o3 n3]).length) (lcopR B1 (partQ (X [partQ B1 o2 n2, partQ L o3 n3]) 0 (X [partQ B1 o2 n2, partQ L o3 n3]).length) o1 n1 G O)))
set_option maxRecDepth 20000 in
theorem run_LXor (F M : List (List Int) → Int) (B : List (List Int) → List Int) (E : List (List Int) → Bool) (X : List (List Int) → List Int) (G : List (List Int) → Bool) (O : List (List Int) → Nat → Int) (f : Nat → Int) (a : Int) (n : Nat) (L : List Int) :
  (callA (cLXor F M B E X G O) true 1000 Tryd.f48 [.agg ((tab 25 f).map (.si .u64)), .one (.si .i64 a), .one (.slr 4 5 0 n)] (memX gdM [.gone, .gone, .gone, .gone, .rseq .u8 L 5, .gone])).view =
    .br (cmpI .eql (M [[a], [(n : Int)]]) 0) (leafG (tab 25 f)) (lxorR E X G O (B [tab 25 f]) (F [[a], [(n : Int)]]) (binI .add .i64 (F [[a], [(n : Int)]]) (M [[a], [(n : Int)]])) (binI .sub .i64 (F [[a], [(n : Int)]]) a) n L
      (0 + (F [[a], [(n : Int)]]).toNat) ((((B [tab 25 f]).length : Nat) : Int).toNat - (F [[a], [(n : Int)]]).toNat) (0 + (F [[a], [(n : Int)]]).toNat) ((binI .add .i64 (F [[a], [(n : Int)]]) (M [[a], [(n : Int)]])).toNat - (F [[a], [(n : Int)]]).toNat)
      (0 + (binI .sub .i64 (F [[a], [(n : Int)]]) a).toNat) (((n : Nat) : Int).toNat - (binI .sub .i64 (F [[a], [(n : Int)]]) a).toNat)) := by kernel_rfl
noncomputable def cLOut (F M : List (List Int) → Int) (B : List (List Int) → List Int) : Cfg := cfgM [] [pWinV F M] [qLBV B] [] []
def loutR (B1 : List Int) (F1 s : Int) (o n : Nat) : R2 :=
  needR [0 ≤ F1, F1 ≤ s, s ≤ (B1.length : Int)] (.br (decide (n = 0)) (.leaf (.p (.c .e)) [0] []) (needR [o + n ≤ B1.length, 0 < (partQ B1 o n).length, lenP ([] ++ partQ B1 o n)] (leafL ([] ++ partQ B1 o n) 9)))
theorem run_LOut (F M : List (List Int) → Int) (B : List (List Int) → List Int) (f : Nat → Int) (a n : Int) :
  (callA (cLOut F M B) true 1000 Tryd.f52 [.agg ((tab 25 f).map (.si .u64)), .one (.si .i64 a), .one (.si .i64 n)] (memX gdM [.gone, .gone, .gone, .gone, .gone, .gone])).view =
    loutR (B [tab 25 f]) (F [[a], [n]]) (binI .add .i64 (F [[a], [n]]) (M [[a], [n]])) (0 + (F [[a], [n]]).toNat) ((binI .add .i64 (F [[a], [n]]) (M [[a], [n]])).toNat - (F [[a], [n]]).toNat) := by kernel_rfl
def wF (l : List (List Int)) : Int := winF (one l 0) (one l 1)
def wM (l : List (List Int)) : Int := winM (one l 0) (one l 1)
theorem win_bad {a n : Int} (h : winBad a n = true) : winF a n = 0 ∧ winM a n = 0 := by unfold winF winM; rw [h]; exact ⟨rfl, rfl⟩
theorem win_good {a n : Int} (h : winBad a n = false) : winF a n = max a 0 ∧ winM a n = min (n - (max a 0 - a)) (200 - max a 0) := by unfold winF winM; rw [h]; exact ⟨rfl, rfl⟩
theorem mmI_maxI (a b : Int) : mmI false a b = max a b := by
  show iteI (decide (b > a)) b a = _
  by_cases h : b > a
  · rw [decide_eq_true h]; show b = _; omega
  · rw [decide_eq_false h]; show a = _; omega
theorem mmI_minI (a b : Int) : mmI true a b = min a b := by
  show iteI (decide (b < a)) b a = _
  by_cases h : b < a
  · rw [decide_eq_true h]; show b = _; omega
  · rw [decide_eq_false h]; show a = _; omega
theorem ps_window : PSOk cM (pWinV wF wM).1 (pWinV wF wM).2 :=
  upP (psok_e (C := cM) (cokM mem0 mem0 mem0 mem0) rfl rfl fn_window (by kernel_rfl) 1000 (fun fs => [.one (.si .i64 (fs 0 0)), .one (.si .i64 (fs 1 0))]) (fun _ => rfl) fun fs h _ => ⟨_, run_window _ _, by
    have ha := of_ok64 (h.1.2 (fs 0 0) (by simp [tab, Sh.len]))
    have hn := of_ok64 (h.2.1.2 (fs 1 0) (by simp [tab, Sh.len]))
    show Out.sat (fun v _ => v.flat = true ∧ ∀ val, v.R (fun _ => 0) 0 val → (GR.mk false (.t [.w .i64 (winF (fs 0 0) (fs 1 0)), .w .i64 (winM (fs 0 0) (fs 1 0))])).R (fun _ => 0) 0 val) _
    generalize fs 0 0 = a at *
    generalize fs 1 0 = n at *
    have bad : winBad a n = true → Out.sat (fun v _ => v.flat = true ∧ ∀ val, v.R (fun _ => 0) 0 val → (GR.mk false (.t [.w .i64 (winF a n), .w .i64 (winM a n)])).R (fun _ => 0) 0 val) (.done (.tup [.one (.li .i64 0), .one (.li .i64 0)]) Mem.empty) := fun hb => by
      rw [(win_bad hb).1, (win_bad hb).2]
      exact sat_sym rfl rfl
    refine ⟨fun h1 => bad ?_, fun h1 => ⟨fun h2 => bad ?_, fun h2 => ⟨fun h3 => bad ?_, fun h3 => ?_⟩⟩⟩
    · have h1 : n ≤ 0 := of_decide_eq_true h1
      simp [winBad, h1]
    · have h2 : a ≥ 200 := of_decide_eq_true h2
      simp [winBad, h2]
    all_goals
      have h1 : ¬ n ≤ 0 := of_decide_eq_false h1
      have h2 : ¬ a ≥ 200 := of_decide_eq_false h2
      have hneg : unI UnOp.neg .i64 n = -n := by
        show IntKind.i64.wrap (0 - n) = _
        rw [wrap_ok (ok64 (by omega) (by omega))]; omega
    · have h3 : a ≤ unI UnOp.neg .i64 n := of_decide_eq_true h3
      rw [hneg] at h3
      simp [winBad, h3]
    · have h3 : ¬ a ≤ unI UnOp.neg .i64 n := of_decide_eq_false h3
      rw [hneg] at h3
      have hg := win_good (a := a) (n := n) (by simp [winBad]; omega)
      rw [hg.1, hg.2, mmI_maxI, mmI_minI]
      have e1 : binI .sub .i64 (max a 0) a = max a 0 - a := by
        show IntKind.i64.wrap _ = _
        rw [wrap_ok (ok64 (by omega) (by omega))]
      have e2 : binI .sub .i64 n (max a 0 - a) = n - (max a 0 - a) := by
        show IntKind.i64.wrap _ = _
        rw [wrap_ok (ok64 (by omega) (by omega))]
      have e3 : binI .sub .i64 200 (max a 0) = 200 - max a 0 := by
        show IntKind.i64.wrap _ = _
        rw [wrap_ok (ok64 (by omega) (by omega))]
      rw [e1, e2, e3]
      exact sat_same rfl⟩)

/-! ## Xor, Out: where the bytes lie in the state -/

/-- Bytes laid over others from a place on. -/
def xorAt (B : List Int) (a : Nat) (M : List Int) : List Int := B.take a ++ xorB (B.drop a) M ++ B.drop (a + M.length)
theorem win_in {a n : Int} (h0 : 0 ≤ a) (h1 : 1 ≤ n) (h2 : a + n ≤ 200) : winF a n = a ∧ winM a n = n := by
  have := win_good (a := a) (n := n) (by simp [winBad]; omega)
  rw [this.1, this.2]; omega
def Xn (l : List (List Int)) (i : Nat) : Int := leAt (xorAt (leL (l.getD 0 [])) (one l 1).toNat (l.getD 2 [])) (8 * i)
def lxorA (l : List (List Int)) : List Int := tab 25 (Xn l)
noncomputable def q_LXor := (48, fsum [.one (.l .u64 25), .one (.w .i64), .one (.s .u8)] (fun l => [0 ≤ one l 1, 1 ≤ (l.getD 2 []).length, one l 1 + ((l.getD 2 []).length : Int) ≤ 200]) fun l => .one (.p (.g ((lxorA l).map (.i .u64)))))
theorem xorAt_len {B M : List Int} {a : Nat} (h : a + M.length ≤ B.length) : (xorAt B a M).length = B.length := by
  simp only [xorAt, List.length_append, List.length_take, List.length_drop, xorB_len]; omega
def oLOf (l : List (List Int)) (i : Nat) : Int := leAt (l.getD 0 []) (8 * i)
theorem leafG_sat {L : List Int} (h : L.length = 25) : (leafG L).sat (RS.met (.p (.g (L.map (.i .u64))))) := by
  refine ⟨rfl, ?_, List.nodup_nil⟩
  have := lenOk_is (k := .u64) L
  rw [h] at this
  exact this
theorem qs_LXor : FOk cM q_LXor.1 q_LXor.2 :=
  upM (fok_view (C := cLXor wF wM (fun l => leL (l.getD 0 [])) (fun l => decide (xorB (l.getD 0 []) (l.getD 1 []) = [])) (fun l => xorB (l.getD 0 []) (l.getD 1 [])) (fun l => decide ((l.getD 0 []).length = 200)) oLOf) (shs := [.one (.l .u64 25), .one (.w .i64), .one (.s .u8)]) (T := fun l => .one (.p (.g ((lxorA l).map (.i .u64)))))
    (conds := fun l => [0 ≤ one l 1, 1 ≤ (l.getD 2 []).length, one l 1 + ((l.getD 2 []).length : Int) ≤ 200]) (cokM mem0 (mem1 ps_window) (memc qs_LBytes (memc qs_LXor8 (mem1 qs_LOf))) mem0) rfl rfl fn_LXor (by kernel_rfl) 1000 fun Ms hok hp =>
    ⟨_, run_LXor _ _ _ _ _ _ _ (fun i => (Ms 0).getD i 0) ((Ms 1).getD 0 0) (Ms 2).length (Ms 2), by
      have hA : (Ms 0).length = 25 := hok.1.1
      have h1 : 0 ≤ (Ms 1).getD 0 0 := hp.1
      have h2 : 1 ≤ (Ms 2).length := hp.2.1
      have h3 : (Ms 1).getD 0 0 + ((Ms 2).length : Int) ≤ 200 := hp.2.2.1
      rw [tab_self hA]
      show R2.sat (RS.met (.p (.g ((ofL (xorAt (leL (Ms 0)) ((Ms 1).getD 0 0).toNat (Ms 2))).map (.i .u64))))) _
      have hB : (leL (Ms 0)).length = 200 := by rw [leL_len, hA]
      generalize Ms 0 = A at *
      generalize Ms 2 = M at *
      generalize ha : (Ms 1).getD 0 0 = a at *
      obtain ⟨k, rfl⟩ : ∃ k : Nat, a = (k : Int) := ⟨a.toNat, by omega⟩
      have hw := win_in (a := (k : Int)) (n := (M.length : Int)) (by omega) (by omega) (by omega)
      have hF : wF [[(k : Int)], [(M.length : Int)]] = (k : Int) := hw.1
      have hM : wM [[(k : Int)], [(M.length : Int)]] = (M.length : Int) := hw.2
      show R2.sat _ (.br (cmpI .eql (wM [[(k : Int)], [(M.length : Int)]]) 0) (leafG A) (lxorR _ _ _ _ (leL A) (wF [[(k : Int)], [(M.length : Int)]]) (binI .add .i64 (wF [[(k : Int)], [(M.length : Int)]]) (wM [[(k : Int)], [(M.length : Int)]])) (binI .sub .i64 (wF [[(k : Int)], [(M.length : Int)]]) (k : Int)) M.length M
        (0 + (wF [[(k : Int)], [(M.length : Int)]]).toNat) ((((leL A).length : Nat) : Int).toNat - (wF [[(k : Int)], [(M.length : Int)]]).toNat) (0 + (wF [[(k : Int)], [(M.length : Int)]]).toNat) ((binI .add .i64 (wF [[(k : Int)], [(M.length : Int)]]) (wM [[(k : Int)], [(M.length : Int)]])).toNat - (wF [[(k : Int)], [(M.length : Int)]]).toNat)
        (0 + (binI .sub .i64 (wF [[(k : Int)], [(M.length : Int)]]) (k : Int)).toNat) (((M.length : Nat) : Int).toNat - (binI .sub .i64 (wF [[(k : Int)], [(M.length : Int)]]) (k : Int)).toNat)))
      rw [hF, hM]
      have e1 : binI .add .i64 (k : Int) (M.length : Int) = ((k + M.length : Nat) : Int) := by
        show IntKind.i64.wrap _ = _
        rw [wrap_ok (ok64 (by omega) (by omega))]; omega
      have e2 : binI .sub .i64 (k : Int) (k : Int) = ((0 : Nat) : Int) := by
        show IntKind.i64.wrap _ = _
        rw [wrap_ok (ok64 (by omega) (by omega))]; omega
      rw [e1, e2]
      simp only [Int.toNat_natCast, Nat.zero_add, Nat.sub_zero, Nat.add_sub_cancel_left]
      refine ⟨fun h => absurd (of_decide_eq_true (p := (M.length : Int) = 0) (by simpa [cmpI] using h)) (by omega), fun _ => ?_⟩
      have hp1 : partQ (leL A) k M.length = ((leL A).drop k).take M.length := by unfold partQ; split <;> simp
      have hp2 : partQ M 0 M.length = M := partQ_all _
      unfold lxorR
      rw [hp1, hp2]
      have hx : xorB (((leL A).drop k).take M.length) M = xorB ((leL A).drop k) M := by rw [xorB_take, List.take_of_length_le (by rw [xorB_len]; omega)]
      have hxl : (xorB ((leL A).drop k) M).length = M.length := by rw [xorB_len, List.length_drop]; omega
      refine needR_sat ⟨by omega, by omega, by omega, by omega, by omega, by omega, by omega, by omega, by omega, by omega, by omega, by unfold bigLen; omega, trivial⟩ ?_
      show R2.sat _ (.br (decide (xorB (((leL A).drop k).take M.length) M = [])) _ (.need (0 + (xorB (((leL A).drop k).take M.length) M).length ≤ (xorB (((leL A).drop k).take M.length) M).length) (lcopR (leL A) (partQ (xorB (((leL A).drop k).take M.length) M) 0 (xorB (((leL A).drop k).take M.length) M).length) k ((leL A).length - k) _ _)))
      rw [hx, partQ_all]
      refine ⟨fun h => ?_, fun _ => ⟨by omega, ?_⟩⟩
      · have h : xorB ((leL A).drop k) M = [] := of_decide_eq_true h
        rw [h] at hxl
        simp at hxl; omega
      · unfold lcopR
        refine needR_sat ⟨by omega, by omega, trivial⟩ ?_
        have hR : (leL A).take k ++ (xorB ((leL A).drop k) M).take ((leL A).length - k) ++ (leL A).drop (k + min (xorB ((leL A).drop k) M).length ((leL A).length - k)) = xorAt (leL A) k M := by
          unfold xorAt
          rw [List.take_of_length_le (l := xorB ((leL A).drop k) M) (by omega), show min (xorB ((leL A).drop k) M).length ((leL A).length - k) = M.length by omega]
        rw [hR]
        have hlen : (xorAt (leL A) k M).length = (leL A).length := xorAt_len (by omega)
        unfold lofR
        rw [show partQ (xorAt (leL A) k M) 0 (leL A).length = xorAt (leL A) k M from by rw [← hlen]; exact partQ_all _]
        refine ⟨by omega, fun _ => ?_, fun h => ?_⟩
        · show (leafG (ofL (xorAt (leL A) k M))).sat _
          exact leafG_sat (by simp [ofL])
        · have h : ¬ (xorAt (leL A) k M).length = 200 := of_decide_eq_false h
          omega⟩)
def On (l : List (List Int)) (i : Nat) : Int := ((leL (l.getD 0 [])).drop (one l 1).toNat).getD i 0
theorem take_tab {L : List Int} {m : Nat} (h : m ≤ L.length) : L.take m = tab m fun i => L.getD i 0 := by
  apply List.ext_getElem
  · simp [tab]; omega
  · intro i h1 h2
    simp [tab] at h1 h2 ⊢
    rw [List.getElem?_eq_getElem (by omega)]; rfl
def outL (l : List (List Int)) : List Int := tab (one l 2).toNat (On l)
noncomputable def q_LOut := (52, fsum [.one (.l .u64 25), .one (.w .i64), .one (.w .i64)] (fun l => [0 ≤ one l 1, 1 ≤ one l 2, one l 1 + one l 2 ≤ 200]) fun l => .one (.p (.c (.s 5 .u8 (outL l)))))
theorem qs_LOut : FOk cM q_LOut.1 q_LOut.2 :=
  upM (fok_view (C := cLOut wF wM (fun l => leL (l.getD 0 []))) (shs := [.one (.l .u64 25), .one (.w .i64), .one (.w .i64)]) (T := fun l => .one (.p (.c (.s 5 .u8 (outL l)))))
    (conds := fun l => [0 ≤ one l 1, 1 ≤ one l 2, one l 1 + one l 2 ≤ 200]) (cokM mem0 (mem1 ps_window) (mem1 qs_LBytes) mem0) rfl rfl fn_LOut (by kernel_rfl) 1000 fun Ms hok hp =>
    ⟨_, run_LOut _ _ _ (fun i => (Ms 0).getD i 0) ((Ms 1).getD 0 0) ((Ms 2).getD 0 0), by
      have hA : (Ms 0).length = 25 := hok.1.1
      have h1 : 0 ≤ (Ms 1).getD 0 0 := hp.1
      have h2 : 1 ≤ (Ms 2).getD 0 0 := hp.2.1
      have h3 : (Ms 1).getD 0 0 + (Ms 2).getD 0 0 ≤ 200 := hp.2.2.1
      rw [tab_self hA]
      show R2.sat _ (loutR (leL (Ms 0)) _ _ _ _)
      show R2.sat (RS.met (.p (.c (.s 5 .u8 (tab ((Ms 2).getD 0 0).toNat fun i => ((leL (Ms 0)).drop ((Ms 1).getD 0 0).toNat).getD i 0))))) _
      have hB : (leL (Ms 0)).length = 200 := by rw [leL_len, hA]
      generalize leL (Ms 0) = B at *
      generalize (Ms 1).getD 0 0 = a at *
      generalize (Ms 2).getD 0 0 = n at *
      obtain ⟨k, rfl⟩ : ∃ k : Nat, a = (k : Int) := ⟨a.toNat, by omega⟩
      obtain ⟨m, rfl⟩ : ∃ m : Nat, n = (m : Int) := ⟨n.toNat, by omega⟩
      have hw := win_in (a := (k : Int)) (n := (m : Int)) (by omega) (by omega) (by omega)
      have hF : wF [[(k : Int)], [(m : Int)]] = (k : Int) := hw.1
      have hM : wM [[(k : Int)], [(m : Int)]] = (m : Int) := hw.2
      rw [hF, hM]
      have e1 : binI .add .i64 (k : Int) (m : Int) = ((k + m : Nat) : Int) := by
        show IntKind.i64.wrap _ = _
        rw [wrap_ok (ok64 (by omega) (by omega))]; omega
      rw [e1]
      simp only [Int.toNat_natCast, Nat.zero_add, Nat.add_sub_cancel_left]
      have hp1 : partQ B k m = (B.drop k).take m := by unfold partQ; split <;> simp
      have hl : ((B.drop k).take m).length = m := by rw [List.length_take, List.length_drop]; omega
      unfold loutR
      rw [hp1, List.nil_append, ← take_tab (L := B.drop k) (m := m) (by rw [List.length_drop]; omega)]
      refine needR_sat ⟨by omega, by omega, by omega, trivial⟩ ⟨fun h => absurd (of_decide_eq_true h) (by omega), fun _ => needR_sat ⟨by omega, by omega, lenP_of (by omega), trivial⟩ (leafL_sat rfl)⟩⟩)
end Go.Proofs.YtnghpimihklmdaaDoor

/- Layer 12 (step): the configuration; the functions of numbers: places, offsets, constants. -/
namespace Go.Proofs.YtnghpimihklmdaaDoor
open Go Go.Ax
set_option linter.unusedSectionVars false
variable [JW]

def offs : List Int := [0, 1, 62, 28, 27, 36, 44, 6, 55, 20, 3, 10, 43, 25, 39, 41, 45, 15, 21, 8, 18, 2, 61, 56, 14]
def rcs : List Int := [1, 32898, 9223372036854808714, 9223372039002292224, 32907, 2147483649, 9223372039002292353, 9223372036854808585, 138, 136, 2147516425, 2147483658, 2147516555, 9223372036854775947, 9223372036854808713, 9223372036854808579, 9223372036854808578, 9223372036854775936, 32778, 9223372039002259466, 9223372039002292353, 9223372036854808704, 2147483649, 9223372039002292232]
def gdA : List (Nat × List SV) := [(4, offs.map (.li .i64)), (5, rcs.map (.li .u64))]

noncomputable abbrev cfg (fns : List (Nat × Func)) (ps : PSs) : Cfg := cfgP Tryd.prog JW.J gdA false 2 [] fns ps [] [] [] []
theorem cok {fns : List (Nat × Func)} {ps : PSs} (h1 : ∀ p ∈ fns, FnOk Tryd.prog p.1 p.2) (h2 : ∀ p ∈ ps, PSOk (cfg [] []) p.1 p.2) : COk (cfg fns ps) := cokP mixedM JW.hJ h1 h2 mem0 mem0 mem0
theorem up {fns : List (Nat × Func)} {ps : PSs} {g : Nat} {F : List AV → Mem → Option (List Cnd × AV)} (h : PSOk (cfg fns ps) g F) : PSOk (cfg [] []) g F := upPP h
noncomputable abbrev cfgS (fns : List (Nat × Func)) (ps : PSs) (sp : SPs) : Cfg := cfgP Tryd.prog JW.J gdA false 2 [] fns ps [] [] sp []
theorem cokS {fns : List (Nat × Func)} {ps : PSs} {sp : SPs} (h1 : ∀ p ∈ fns, FnOk Tryd.prog p.1 p.2) (h2 : ∀ p ∈ ps, PSOk (cfg [] []) p.1 p.2) : COk (cfgS fns ps sp) := cokP mixedM JW.hJ h1 h2 mem0 mem0 mem0

/-! ## Numbers -/

theorem tmod_if (x : Int) {n : Int} : x.tmod n = if 0 ≤ x then x % n else -((-x) % n) := by
  split
  · exact Int.tmod_eq_emod_of_nonneg (by assumption)
  · have h : 0 ≤ -x := by omega
    have h1 := Int.tmod_eq_emod_of_nonneg (b := n) h
    rw [Int.neg_tmod] at h1
    omega

theorem tdiv_nn {x : Int} (n : Int) (h : 0 ≤ x) : x.tdiv n = x / n := Int.tdiv_eq_ediv_of_nonneg h

theorem add64 {a b : Int} (h1 : -9223372036854775808 ≤ a + b) (h2 : a + b ≤ 9223372036854775807) : binI .add .i64 a b = a + b := wrap_ok (ok64 h1 h2)
theorem sub64 {a b : Int} (h1 : -9223372036854775808 ≤ a - b) (h2 : a - b ≤ 9223372036854775807) : binI .sub .i64 a b = a - b := wrap_ok (ok64 h1 h2)
theorem mul64 {a b : Int} (h1 : -9223372036854775808 ≤ a * b) (h2 : a * b ≤ 9223372036854775807) : binI .mul .i64 a b = a * b := wrap_ok (ok64 h1 h2)
theorem rem64 {a b : Int} : binI .rem .i64 a b = a.tmod b := rfl

/-! ## at -/

def atI (x y : Int) : Int := x % 5 + 5 * (y % 5)

theorem at_eq (x y : Int) : binI .add .i64 (binI .rem .i64 (binI .add .i64 (binI .rem .i64 x 5) 5) 5) (binI .mul .i64 5 (binI .rem .i64 (binI .add .i64 (binI .rem .i64 y 5) 5) 5)) = atI x y := by
  have key : ∀ z : Int, binI .rem .i64 (binI .add .i64 (binI .rem .i64 z 5) 5) 5 = z % 5 := fun z => by
    rw [rem64, rem64, tmod_if z]
    have h : -4 ≤ (if 0 ≤ z then z % 5 else -(-z % 5)) ∧ (if 0 ≤ z then z % 5 else -(-z % 5)) ≤ 4 := by split <;> omega
    rw [add64 (by omega) (by omega), tmod_if]
    split <;> split <;> omega
  rw [key, key, mul64 (by omega) (by omega), add64 (by omega) (by omega)]
  rfl


def T_at : List (List Int) → GR := fun l => .p (.w .i64 (atI (one l 0) (one l 1)))
def p_at := (153, gsum [.w .i64, .w .i64] (fun _ => []) T_at)

theorem fn_at : FnOk Tryd.prog 153 Tryd.f153 := ⟨Tryd.func153, by kernel_rfl⟩

theorem run_at (x y : Int) : callA (cfg [] []) false 100 Tryd.f153 [.one (.si .i64 x), .one (.si .i64 y)] (memG gdA) =
    .done (.one (.si .i64 (binI .add .i64 (binI .rem .i64 (binI .add .i64 (binI .rem .i64 x 5) 5) 5) (binI .mul .i64 5 (binI .rem .i64 (binI .add .i64 (binI .rem .i64 y 5) 5) 5))))) Mem.empty := by kernel_rfl

theorem ps_at : PSOk (cfg [] []) p_at.1 p_at.2 :=
  psok_e (cok (by simp) (by simp)) rfl rfl fn_at rfl 100 (fun fs => [.one (.si .i64 (fs 0 0)), .one (.si .i64 (fs 1 0))]) (fun _ => rfl) fun fs _ _ => ⟨_, run_at (fs 0 0) (fs 1 0), sat_same (by rw [at_eq]; rfl)⟩

end Go.Proofs.YtnghpimihklmdaaDoor

/- Layer 12 (step): Offset; the law StepOffsets, run. -/
namespace Go.Proofs.YtnghpimihklmdaaDoor
open Go Go.Ax
set_option linter.unusedSectionVars false
variable [JW]

theorem atI_range (x y : Int) : 0 ≤ atI x y ∧ atI x y < 25 := by unfold atI; omega

def T_Offset : List (List Int) → GR := fun l => .p (.w .i64 (sel offs (atI (one l 0) (one l 1))))
def p_Offset := (140, gsum [.w .i64, .w .i64] (fun _ => []) T_Offset)

theorem fn_Offset : FnOk Tryd.prog 140 Tryd.f140 := ⟨Tryd.func140, by kernel_rfl⟩

theorem run_Offset (x y : Int) : callA (cfg [] [p_at]) false 100 Tryd.f140 [.one (.si .i64 x), .one (.si .i64 y)] (memG gdA) =
    .need (0 ≤ atI x y) (.need (atI x y < 25) (.need (0 ≤ atI x y) (.need (atI x y < 25) (.done (.one (.si .i64 (sel offs (atI x y)))) Mem.empty)))) := by kernel_rfl

theorem ps_Offset : PSOk (cfg [] []) p_Offset.1 p_Offset.2 :=
  up (psok_e (C := cfg [] [p_at]) (cok (by simp) (by simp [ps_at])) rfl rfl fn_Offset rfl 100 (fun fs => [.one (.si .i64 (fs 0 0)), .one (.si .i64 (fs 1 0))]) (fun _ => rfl) fun fs _ _ =>
    have h := atI_range (fs 0 0) (fs 1 0)
    ⟨_, run_Offset (fs 0 0) (fs 1 0), h.1, h.2, h.1, h.2, sat_same rfl⟩)

/-! ## The reference's offsets -/

theorem fn_place : FnOk Tryd.prog 154 Tryd.f154 := ⟨Tryd.func154, by kernel_rfl⟩
theorem fn_Offsets : FnOk Tryd.prog 144 Tryd.f144 := ⟨Tryd.func144, by kernel_rfl⟩
theorem fn_Constant : FnOk Tryd.prog 142 Tryd.f142 := ⟨Tryd.func142, by kernel_rfl⟩
def T_Offsets : List (List Int) → GR := fun _ => .p (.l .i64 offs)
def p_Offsets := (144, gsum [] (fun _ => []) T_Offsets)

theorem run_Offsets : callA (cfg [(154, Tryd.f154)] []) false 1000 Tryd.f144 [] (memG gdA) = .done (.agg (offs.map (.li .i64))) Mem.empty := by kernel_rfl

theorem ps_Offsets : PSOk (cfg [] []) p_Offsets.1 p_Offsets.2 :=
  up (psok_e (C := cfg [(154, Tryd.f154)] []) (cok (by simp [fn_place]) (by simp)) rfl rfl fn_Offsets rfl 1000 (fun _ => []) (fun _ => rfl) fun fs _ _ =>
    ⟨_, run_Offsets, flat_li, fun _ h => agg_li_si h⟩)

/-! ## wakes -/

def T_wakes12 : List (List Int) → GR := fun _ => .p (.b true)
/-! ## The law StepOffsets -/

def offTree (i k x y : Int) : Out :=
  let j := binI .add .i64 i (binI .mul .i64 5 k)
  .need (0 ≤ j) (.need (j < 25) (.done (.one (.sb (sel offs (atI x y) == sel offs j))) Mem.empty))

theorem offTree_sat {i k x y : Int} (hi : i = x % 5) (hk : k = y % 5) : (offTree i k x y).sat fun v _ => v = .one (.sb true) ∨ v = .one (.lb true) := by
  subst hi; subst hk
  unfold offTree
  rw [mul64 (by omega) (by omega), add64 (by omega) (by omega)]
  have h := atI_range x y
  exact ⟨h.1, h.2, .inl (by rw [show x % 5 + 5 * (y % 5) = atI x y from rfl]; simp)⟩

end Go.Proofs.YtnghpimihklmdaaDoor

/- Layer 12 (step): the five steps, as functions of lists of lanes. -/
namespace Go.Proofs.YtnghpimihklmdaaDoor
open Go Go.Ax
set_option linter.unusedSectionVars false
variable [JW]

/-- The lane at a place. -/
def nth (es : List Int) (i : Nat) : Int := es.getD i 0
def xo (a b : Int) : Int := binI .xor .u64 a b
def L25 (es : List Int) : AV := .agg (es.map (.si .u64))

def row0 (l : List (List Int)) : List Int := l.getD 0 []

/-! ## Pi -/

def piL (es : List Int) : List Int := tab 25 fun i => nth es ((i % 5 + 3 * (i / 5)) % 5 + 5 * (i % 5))
def T_Pi : List (List Int) → GR := fun l => .p (.l .u64 (piL (row0 l)))
/-! ## Chi -/

def chiL (es : List Int) : List Int := tab 25 fun i => xo (nth es i) (binI .andNot .u64 (nth es (5 * (i / 5) + (i % 5 + 2) % 5)) (nth es (5 * (i / 5) + (i % 5 + 1) % 5)))
def T_Chi : List (List Int) → GR := fun l => .p (.l .u64 (chiL (row0 l)))
end Go.Proofs.YtnghpimihklmdaaDoor

/- Words of 64 bits: the executor's operations on integers, as operations on bit vectors. -/
namespace Go.Ax
open Go

def bv (x : Int) : BitVec 64 := BitVec.ofInt 64 x
def nb (x : BitVec 64) : Int := (x.toNat : Int)

theorem bv_nb (x : BitVec 64) : bv (nb x) = x := by unfold bv nb; simp

theorem u64_bounds {n : Int} (h : okI .u64 n) : 0 ≤ n ∧ n < 18446744073709551616 := by
  unfold okI at h; simp [IntKind.min, IntKind.max, IntKind.bits, IntKind.signed] at h; omega
theorem u64_ok {n : Int} (h1 : 0 ≤ n) (h2 : n < 18446744073709551616) : okI .u64 n := by
  unfold okI; simp [IntKind.min, IntKind.max, IntKind.bits, IntKind.signed]; omega

theorem nb_bv {n : Int} (h : okI .u64 n) : nb (bv n) = n := by
  obtain ⟨h1, h2⟩ := u64_bounds h
  unfold nb bv
  rw [BitVec.toNat_ofInt]
  have e : (n % ((2 ^ 64 : Nat) : Int)) = n := Int.emod_eq_of_lt h1 (by simpa using h2)
  rw [e]
  omega

theorem nb_ok (x : BitVec 64) : okI .u64 (nb x) := by
  have := x.isLt
  unfold nb
  exact u64_ok (by omega) (by omega)

theorem eq_of_bv {a b : Int} (ha : okI .u64 a) (hb : okI .u64 b) (h : bv a = bv b) : a = b := by rw [← nb_bv ha, ← nb_bv hb, h]

theorem wrap_nat (x : BitVec 64) : IntKind.u64.wrap (x.toNat : Int) = nb x := wrap_ok (nb_ok x)

theorem xor_nb (a b : Int) : binI .xor .u64 a b = nb (bv a ^^^ bv b) := wrap_nat (bv a ^^^ bv b)
theorem and_nb (a b : Int) : binI .and .u64 a b = nb (bv a &&& bv b) := wrap_nat (bv a &&& bv b)
theorem or_nb (a b : Int) : binI .or .u64 a b = nb (bv a ||| bv b) := wrap_nat (bv a ||| bv b)
theorem andNot_nb (a b : Int) : binI .andNot .u64 a b = nb (bv a &&& ~~~ bv b) := wrap_nat (bv a &&& ~~~ bv b)

theorem wrap_bv (n : Int) : IntKind.u64.wrap n = nb (bv n) := by
  unfold nb bv
  rw [BitVec.toNat_ofInt]
  simp only [IntKind.wrap, IntKind.bits, IntKind.signed, Bool.false_and, Bool.false_eq_true, if_false]
  have e : (2 : Int) ^ 64 = ((2 ^ 64 : Nat) : Int) := by decide
  rw [e]
  have : 0 ≤ n % ((2 ^ 64 : Nat) : Int) := Int.emod_nonneg _ (by decide)
  omega

theorem add_nb (a b : Int) : binI .add .u64 a b = nb (bv a + bv b) := by
  show IntKind.u64.wrap (a + b) = _
  rw [wrap_bv]; congr 1; unfold bv; exact BitVec.ofInt_add _ _
theorem sub_nb (a b : Int) : binI .sub .u64 a b = nb (bv a - bv b) := by
  show IntKind.u64.wrap (a - b) = _
  rw [wrap_bv]; congr 1; unfold bv
  rw [Int.sub_eq_add_neg, BitVec.ofInt_add, BitVec.ofInt_neg, BitVec.sub_eq_add_neg]
theorem mul_nb (a b : Int) : binI .mul .u64 a b = nb (bv a * bv b) := by
  show IntKind.u64.wrap (a * b) = _
  rw [wrap_bv]; congr 1; unfold bv; exact BitVec.ofInt_mul _ _

theorem not_nb (a : Int) : unI .xor .u64 a = nb (~~~ bv a) := by
  have h : bv (if IntKind.u64.signed then -1 else IntKind.u64.max) = BitVec.allOnes 64 := by decide
  have e : unI .xor .u64 a = binI .xor .u64 (if IntKind.u64.signed then -1 else IntKind.u64.max) a := rfl
  rw [e, xor_nb, h, BitVec.allOnes_xor]

theorem shl_nb (a : Int) {n : Nat} : binI .shl .u64 a (n : Int) = nb (bv a <<< n) := by
  show IntKind.u64.wrap (a * 2 ^ (min (n : Int).toNat IntKind.u64.bits)) = _
  rw [wrap_bv]
  congr 1
  simp only [Int.toNat_natCast, IntKind.bits]
  unfold bv
  rw [BitVec.ofInt_mul]
  have e : BitVec.ofInt 64 (2 ^ min n 64) = BitVec.ofNat 64 (2 ^ min n 64) := by
    have : ((2 : Int) ^ min n 64) = ((2 ^ min n 64 : Nat) : Int) := by simp
    rw [this, BitVec.ofInt_natCast]
  rw [e, BitVec.shiftLeft_eq_mul_twoPow]
  by_cases h : n < 64
  · rw [Nat.min_eq_left (by omega)]
    have e2 : BitVec.ofNat 64 (2 ^ n) = BitVec.twoPow 64 n := by
      apply BitVec.eq_of_toNat_eq
      simp [BitVec.toNat_twoPow]
    rw [e2]
  · rw [Nat.min_eq_right (by omega)]
    have e1 : BitVec.ofNat 64 (2 ^ 64) = 0#64 := by decide
    have e2 : BitVec.twoPow 64 n = 0#64 := by
      apply BitVec.eq_of_toNat_eq
      simp [BitVec.toNat_twoPow]
      exact Nat.mod_eq_zero_of_dvd (Nat.pow_dvd_pow 2 (by omega : 64 ≤ n))
    rw [e1, e2]

theorem shr_nb {a : Int} (ha : okI .u64 a) {n : Nat} : binI .shr .u64 a (n : Int) = nb (bv a >>> n) := by
  obtain ⟨h1, h2⟩ := u64_bounds ha
  show a.fdiv (2 ^ (min (n : Int).toNat IntKind.u64.bits)) = _
  simp only [Int.toNat_natCast, IntKind.bits]
  have hp : (0 : Int) < 2 ^ min n 64 := Int.pow_pos (by decide)
  rw [Int.fdiv_eq_ediv_of_nonneg _ (by omega)]
  unfold nb
  rw [BitVec.toNat_ushiftRight]
  have hb : ((bv a).toNat : Int) = a := nb_bv ha
  have hlt := (bv a).isLt
  rw [Nat.shiftRight_eq_div_pow]
  by_cases h : n < 64
  · rw [Nat.min_eq_left (by omega)]
    have e : (((bv a).toNat / 2 ^ n : Nat) : Int) = ((bv a).toNat : Int) / ((2 ^ n : Nat) : Int) := Int.natCast_ediv _ _
    rw [e, hb]
    simp
  · rw [Nat.min_eq_right (by omega)]
    have e1 : (bv a).toNat / 2 ^ n = 0 := Nat.div_eq_of_lt (Nat.lt_of_lt_of_le hlt (Nat.pow_le_pow_right (by decide) (by omega)))
    rw [e1]
    exact Int.ediv_eq_zero_of_lt h1 (by simpa using h2)

end Go.Ax

/- Words turned: long.Turn and its kin. -/
namespace Go.Proofs.YtnghpimihklmdaaDoor
open Go Go.Ax
set_option linter.unusedSectionVars false
variable [JW]

theorem and63_i64 (n : Int) : binI .and .i64 n 63 = n % 64 := by
  show IntKind.i64.wrap ((BitVec.ofInt 64 n &&& BitVec.ofInt 64 63).toNat : Int) = _
  have e : (BitVec.ofInt 64 n &&& BitVec.ofInt 64 63).toNat = (n % 64).toNat := by
    rw [BitVec.toNat_and, show (BitVec.ofInt 64 63).toNat = 2 ^ 6 - 1 from by decide, Nat.and_two_pow_sub_one_eq_mod, BitVec.toNat_ofInt]
    omega
  rw [e]
  have : ((n % 64).toNat : Int) = n % 64 := by omega
  rw [this]
  exact wrap_ok (ok64 (by omega) (by omega))

theorem and63_u64 (n : Int) : binI .and .u64 n 63 = n % 64 := by
  show IntKind.u64.wrap ((BitVec.ofInt 64 n &&& BitVec.ofInt 64 63).toNat : Int) = _
  have e : (BitVec.ofInt 64 n &&& BitVec.ofInt 64 63).toNat = (n % 64).toNat := by
    rw [BitVec.toNat_and, show (BitVec.ofInt 64 63).toNat = 2 ^ 6 - 1 from by decide, Nat.and_two_pow_sub_one_eq_mod, BitVec.toNat_ofInt]
    omega
  rw [e]
  have : ((n % 64).toNat : Int) = n % 64 := by omega
  rw [this]
  exact wrap_ok (u64_ok (by omega) (by omega))

/-- A word turned to the right; by a number below nought, to the left. -/
def rot (x n : Int) : Int := nb ((bv x).rotateRight (n % 64).toNat)

theorem turn_eq {x n : Int} (hx : okI .u64 x) :
    binI .or .u64 (binI .shl .u64 x (binI .and .u64 (IntKind.u64.wrap (unI .neg .i64 (binI .and .i64 n 63))) 63)) (binI .shr .u64 x (binI .sub .u64 64 (binI .and .u64 (IntKind.u64.wrap (unI .neg .i64 (binI .and .i64 n 63))) 63))) = rot x n := by
  rw [and63_i64]
  have e1 : unI .neg .i64 (n % 64) = -(n % 64) := by
    show IntKind.i64.wrap (0 - n % 64) = _
    rw [wrap_ok (ok64 (by omega) (by omega))]; omega
  have e2 : binI .and .u64 (IntKind.u64.wrap (-(n % 64))) 63 = (-(n % 64)) % 64 := by
    rw [and63_u64]
    simp only [IntKind.wrap, IntKind.bits, IntKind.signed, Bool.false_and, Bool.false_eq_true, if_false]
    omega
  rw [e1, e2]
  have hm := Int.emod_nonneg n (show (64 : Int) ≠ 0 by decide)
  have hm2 := Int.emod_lt_of_pos n (show (0 : Int) < 64 by decide)
  have e3 : binI .sub .u64 64 ((-(n % 64)) % 64) = 64 - (-(n % 64)) % 64 := by
    show IntKind.u64.wrap _ = _
    exact wrap_ok (u64_ok (by omega) (by omega))
  rw [e3]
  unfold rot
  rw [BitVec.rotateRight_def]
  by_cases h : n % 64 = 0
  · rw [h]
    have s1 : (-(0 : Int)) % 64 = ((0 : Nat) : Int) := by decide
    have s2 : (64 : Int) - ((0 : Nat) : Int) = ((64 : Nat) : Int) := by decide
    rw [s1, s2, shl_nb, shr_nb hx, or_nb, bv_nb, bv_nb]
    congr 1
    simp [BitVec.shiftLeft_eq_zero, BitVec.ushiftRight_eq_zero]
  · obtain ⟨m, hmn⟩ : ∃ m : Nat, n % 64 = (m : Int) := ⟨(n % 64).toNat, by omega⟩
    have hm3 : 0 < m ∧ m < 64 := by omega
    rw [hmn]
    have s1 : (-(m : Int)) % 64 = ((64 - m : Nat) : Int) := by omega
    have s2 : (64 : Int) - ((64 - m : Nat) : Int) = (m : Int) := by omega
    rw [s1, s2, shl_nb, shr_nb hx, or_nb, bv_nb, bv_nb]
    congr 1
    rw [Int.toNat_natCast, Nat.mod_eq_of_lt hm3.2, BitVec.or_comm]

def T_Turn : List (List Int) → GR := fun l => .p (.w .u64 (rot (one l 0) (one l 1)))
def p_Turn := (139, gsum [.w .u64, .w .i64] (fun _ => []) T_Turn)
theorem fn_Rot : FnOk Tryd.prog 152 Tryd.f152 := ⟨Tryd.func152, by kernel_rfl⟩
theorem fn_Turn : FnOk Tryd.prog 139 Tryd.f139 := ⟨Tryd.func139, by kernel_rfl⟩
noncomputable def c_Turn := cfg [(152, Tryd.f152)] []
theorem run_Turn (x n : Int) : callA c_Turn false 1000 Tryd.f139 [.one (.si .u64 x), .one (.si .i64 n)] (memG gdA) = .done (.one (.si .u64
    (binI .or .u64 (binI .shl .u64 x (binI .and .u64 (IntKind.u64.wrap (unI .neg .i64 (binI .and .i64 n 63))) 63)) (binI .shr .u64 x (binI .sub .u64 64 (binI .and .u64 (IntKind.u64.wrap (unI .neg .i64 (binI .and .i64 n 63))) 63)))))) Mem.empty := by kernel_rfl
theorem ps_Turn : PSOk (cfg [] []) p_Turn.1 p_Turn.2 :=
  up (psok_e (C := c_Turn) (cok (by simp [fn_Rot]) (by simp)) rfl rfl fn_Turn rfl 1000 (fun fs => [.one (.si .u64 (fs 0 0)), .one (.si .i64 (fs 1 0))]) (fun _ => rfl) fun fs h _ =>
    ⟨_, run_Turn (fs 0 0) (fs 1 0), sat_same (by rw [turn_eq (h.1.2 _ (by simp [tab, Sh.len]))]; rfl)⟩)

/-! ## Theta, Rho, Iota -/

/-- The parity of a column. -/
def colI (es : List Int) (x : Int) : Int := xo (xo (xo (xo (sel es (atI x 0)) (sel es (atI x 1))) (sel es (atI x 2))) (sel es (atI x 3))) (sel es (atI x 4))
def T_Theta1 : List (List Int) → List Int → GR := fun l es => .p (.w .u64 (colI es (one l 0)))
def need4 (j : Int) (o : Out) : Out := .need (0 ≤ j) (.need (j < 25) (.need (0 ≤ j) (.need (j < 25) o)))
theorem need4_sat {x y : Int} {o : Out} {K : AV → Mem → Prop} (h : o.sat K) : (need4 (atI x y) o).sat K :=
  have q := atI_range x y
  ⟨q.1, q.2, q.1, q.2, h⟩
def thetaL (es : List Int) : List Int := tab 25 fun i => xo (nth es i) (xo (colI es ((i % 5 : Nat) - 1)) (rot (colI es ((i % 5 : Nat) + 1)) (-1)))
def T_Theta : List (List Int) → GR := fun l => .p (.l .u64 (thetaL (row0 l)))
def rhoL (es : List Int) : List Int := tab 25 fun i => rot (nth es i) (-(sel offs (i : Int)))
def T_Rho : List (List Int) → GR := fun l => .p (.l .u64 (rhoL (row0 l)))
/-! ### Constant: by the round -/

def rcI (r : Int) : Int := if 0 ≤ r ∧ r < 24 then sel rcs r else 0
def T_Constant : List (List Int) → GR := fun l => .p (.w .u64 (rcI (one l 0)))
def p_Constant := (142, gsum [.w .i64] (fun _ => []) T_Constant)
theorem run_Constant (r : Int) : callA (cfg [] []) false 1000 Tryd.f142 [.one (.si .i64 r)] (memG gdA) =
    .br (decide (r < 0)) (.done (.one (.li .u64 0)) Mem.empty) (.br (decide (r ≥ 24)) (.done (.one (.li .u64 0)) Mem.empty) (.need (0 ≤ r) (.need (r < 24) (.need (0 ≤ r) (.need (r < 24) (.done (.one (.si .u64 (sel rcs r))) Mem.empty)))))) := by kernel_rfl
theorem ps_Constant : PSOk (cfg [] []) p_Constant.1 p_Constant.2 :=
  psok_e (cok (by simp) (by simp)) rfl rfl fn_Constant rfl 1000 (fun fs => [.one (.si .i64 (fs 0 0))]) (fun _ => rfl) fun fs _ _ => by
    refine ⟨_, run_Constant (fs 0 0), ?_⟩
    have e : one (tabs [.w .i64] 0 fs) 0 = fs 0 0 := rfl
    refine ⟨fun h => ⟨rfl, fun v hv => ?_⟩, fun h => ⟨fun h2 => ⟨rfl, fun v hv => ?_⟩, fun h2 => ?_⟩⟩
    · have h := of_decide_eq_true h
      have : rcI (fs 0 0) = 0 := if_neg (by omega)
      simp only [T_Constant, e, this]
      exact hv
    · have h2 := of_decide_eq_true h2
      have : rcI (fs 0 0) = 0 := if_neg (by omega)
      simp only [T_Constant, e, this]
      exact hv
    · have h := of_decide_eq_false h
      have h2 := of_decide_eq_false h2
      have : rcI (fs 0 0) = sel rcs (fs 0 0) := if_pos (by omega)
      refine ⟨by omega, by omega, by omega, by omega, sat_same ?_⟩
      simp only [T_Constant, e, this]
      rfl

def iotaL (es : List Int) (r : Int) : List Int := tab 25 fun i => match i with | 0 => xo (nth es 0) (rcI r) | i + 1 => nth es (i + 1)
def T_Iota : List (List Int) → GR := fun l => .p (.l .u64 (iotaL (row0 l) (one l 1)))
end Go.Proofs.YtnghpimihklmdaaDoor

/- Words of 64 bits, bit by bit: as the document's reference takes them apart, and puts them together. -/
namespace Go.Ax
open Go

def bI (b : Bool) : Int := match b with | true => 1 | false => 0
def halve : Nat → Int → Int
  | 0, x => x
  | i + 1, x => binI .quo .u64 (halve i x) 2
def bitsRaw (x : Int) : List Int := tab 64 fun i => IntKind.i64.wrap (binI .rem .u64 (halve i x) 2)
def bitsL (x : Int) : List Int := tab 64 fun i => bI ((bv x).getLsbD i)

theorem tab_congr {n : Nat} {f g : Nat → Int} (h : ∀ i, i < n → f i = g i) : tab n f = tab n g := List.map_congr_left fun i hi => h i (List.mem_range.1 hi)
theorem tab_get {n i : Nat} {f : Nat → Int} (h : i < n) : (tab n f).getD i 0 = f i := by simp [tab, h]

theorem ok64' {n : Int} (h1 : -9223372036854775808 ≤ n) (h2 : n ≤ 9223372036854775807) : okI .i64 n := by
  unfold okI; simp [IntKind.min, IntKind.max, IntKind.bits, IntKind.signed]; omega

theorem lsb_mod (y : BitVec 64) (i : Nat) : bI (y.getLsbD i) = (((y >>> i).toNat % 2 : Nat) : Int) := by
  rw [BitVec.toNat_ushiftRight, Nat.shiftRight_eq_div_pow]
  have : y.getLsbD i = decide (y.toNat / 2 ^ i % 2 = 1) := by
    unfold BitVec.getLsbD
    exact Nat.testBit_eq_decide_div_mod_eq
  rw [this]
  by_cases h : y.toNat / 2 ^ i % 2 = 1
  · rw [decide_eq_true h, h]; rfl
  · rw [decide_eq_false h]
    have : y.toNat / 2 ^ i % 2 = 0 := by omega
    rw [this]; rfl

theorem quo2 (z : BitVec 64) : binI .quo .u64 (nb z) 2 = nb (z >>> 1) := by
  have h := z.isLt
  show IntKind.u64.wrap ((nb z).tdiv 2) = _
  unfold nb
  rw [Int.tdiv_eq_ediv_of_nonneg (by omega), BitVec.toNat_ushiftRight, Nat.shiftRight_eq_div_pow]
  rw [show ((z.toNat : Int) / 2) = ((z.toNat / 2 ^ 1 : Nat) : Int) by omega]
  exact wrap_ok (u64_ok (by omega) (by omega))

theorem halve_nb {x : Int} (hx : okI .u64 x) : ∀ i, halve i x = nb (bv x >>> i)
  | 0 => by simp [halve, nb_bv hx]
  | i + 1 => by rw [halve, halve_nb hx i, quo2, BitVec.shiftRight_add]

theorem rem2 (z : BitVec 64) : binI .rem .u64 (nb z) 2 = ((z.toNat % 2 : Nat) : Int) := by
  show (nb z).tmod 2 = _
  unfold nb
  rw [Int.tmod_eq_emod_of_nonneg (by omega)]
  omega

theorem bits_eq {x : Int} (hx : okI .u64 x) : bitsRaw x = bitsL x :=
  tab_congr fun i _ => by
    rw [halve_nb hx, rem2, lsb_mod]
    exact wrap_ok (ok64' (by omega) (by omega))

/-- A word put together of bits. -/
def ofI (es : List Int) : Int := es.foldr (fun b x => binI .add .u64 (binI .mul .u64 2 x) (IntKind.u64.wrap b)) 0

theorem ofI_range (y : BitVec 64) : ∀ (n i : Nat), i + n = 64 → ofI ((List.range' i n).map fun j => bI (y.getLsbD j)) = nb (y >>> i)
  | 0, i, h => by
    have : i = 64 := by omega
    subst this
    have h0 : y >>> 64 = 0#64 := by
      apply BitVec.eq_of_toNat_eq
      rw [BitVec.toNat_ushiftRight, Nat.shiftRight_eq_div_pow]
      exact Nat.div_eq_of_lt y.isLt
    rw [h0]; rfl
  | n + 1, i, h => by
    have ih := ofI_range y n (i + 1) (by omega)
    rw [List.range'_succ, List.map_cons]
    show binI .add .u64 (binI .mul .u64 2 (ofI ((List.range' (i + 1) n).map fun j => bI (y.getLsbD j)))) (IntKind.u64.wrap (bI (y.getLsbD i))) = _
    rw [ih, lsb_mod]
    have hlt := (y >>> i).isLt
    have e : (y >>> (i + 1)).toNat = (y >>> i).toNat / 2 := by
      rw [BitVec.shiftRight_add, BitVec.toNat_ushiftRight (y >>> i), Nat.shiftRight_eq_div_pow]
    have e1 : binI .mul .u64 2 (nb (y >>> (i + 1))) = 2 * nb (y >>> (i + 1)) := wrap_ok (u64_ok (by unfold nb; omega) (by unfold nb; rw [e]; omega))
    have e2 : IntKind.u64.wrap ((((y >>> i).toNat % 2 : Nat) : Int)) = (((y >>> i).toNat % 2 : Nat) : Int) := wrap_ok (u64_ok (by omega) (by omega))
    rw [e1, e2]
    have e3 : binI .add .u64 (2 * nb (y >>> (i + 1))) (((y >>> i).toNat % 2 : Nat) : Int) = 2 * nb (y >>> (i + 1)) + (((y >>> i).toNat % 2 : Nat) : Int) :=
      wrap_ok (u64_ok (by unfold nb; omega) (by unfold nb; rw [e]; omega))
    rw [e3]
    unfold nb
    rw [e]
    omega

theorem of_bits (y : BitVec 64) : ofI (tab 64 fun i => bI (y.getLsbD i)) = nb y := by
  have := ofI_range y 64 0 rfl
  rw [← List.range_eq_range'] at this
  simpa [tab] using this

theorem add2 (a b : Bool) : binI .rem .i64 (binI .add .i64 (bI a) (bI b)) 2 = bI (a ^^ b) := by cases a <;> cases b <;> rfl

theorem xor_bits (x y : Int) : ofI (tab 64 fun i => binI .rem .i64 (binI .add .i64 ((bitsL x).getD i 0) ((bitsL y).getD i 0)) 2) = binI .xor .u64 x y := by
  rw [xor_nb, ← of_bits]
  congr 1
  refine tab_congr fun i hi => ?_
  rw [bitsL, bitsL, tab_get hi, tab_get hi, add2, BitVec.getLsbD_xor]

end Go.Ax

/- The document's references: words, bit by bit (layer 2), and the steps (layer 12). -/
namespace Go.Proofs.YtnghpimihklmdaaDoor
open Go Go.Ax
set_option linter.unusedSectionVars false
variable [JW]

def T_Bits : List (List Int) → GR := fun l => .p (.l .i64 (bitsL (one l 0)))
def T_Of : List (List Int) → GR := fun l => .p (.w .u64 (ofI (row0 l)))
def T_Xor : List (List Int) → GR := fun l => .p (.w .u64 (xo (one l 0) (one l 1)))
/-! ## Turn -/

def turnJ (m : Int) (i : Nat) : Int := binI .rem .i64 (binI .add .i64 i m) 64
def needL : List Int → Out → Out
  | [], o => o
  | j :: js, o => .need (0 ≤ j) (.need (j < 64) (.need (0 ≤ j) (.need (j < 64) (needL js o))))
theorem needL_sat {K : AV → Mem → Prop} {o : Out} : ∀ {js : List Int}, (∀ j ∈ js, 0 ≤ j ∧ j < 64) → o.sat K → (needL js o).sat K
  | [], _, h => h
  | j :: js, hj, h => by
    have := hj j (List.mem_cons_self ..)
    exact ⟨this.1, this.2, this.1, this.2, needL_sat (fun j h => hj j (List.mem_cons_of_mem _ h)) h⟩
def turnOut (x m : Int) : Out := needL (tab 64 (turnJ m)) (.done (.one (.si .u64 (ofI (tab 64 fun i => sel (bitsL x) (turnJ m i))))) Mem.empty)
theorem turnJ_eq {m : Int} (h1 : 0 ≤ m) (h2 : m < 64) {i : Nat} (hi : i < 64) : turnJ m i = ((i : Int) + m) % 64 := by
  unfold turnJ
  rw [add64 (by omega) (by omega), rem64, Int.tmod_eq_emod_of_nonneg (by omega)]
theorem turn_sat {x m : Int} (h1 : 0 ≤ m) (h2 : m < 64) {K : AV → Mem → Prop} (h : K (.one (.si .u64 (nb ((bv x).rotateRight m.toNat)))) Mem.empty) : (turnOut x m).sat K := by
  refine needL_sat (fun j hj => ?_) ?_
  · obtain ⟨i, hi, rfl⟩ := List.mem_map.1 hj
    rw [turnJ_eq h1 h2 (List.mem_range.1 hi)]
    omega
  · have e : (tab 64 fun i => sel (bitsL x) (turnJ m i)) = tab 64 fun i => bI (((bv x).rotateRight m.toNat).getLsbD i) := by
      refine tab_congr fun i hi => ?_
      rw [turnJ_eq h1 h2 hi, sel, bitsL, tab_get (by omega), BitVec.getLsbD_rotateRight]
      congr 1
      have hm : m.toNat % 64 = m.toNat := Nat.mod_eq_of_lt (by omega)
      rw [hm]
      by_cases hc : i < 64 - m.toNat
      · simp only [hc, decide_true, cond_true]
        congr 1
        omega
      · simp only [hc, decide_false, cond_false, hi, decide_true, Bool.true_and]
        congr 1
        omega
    show K (.one (.si .u64 (ofI (tab 64 fun i => sel (bitsL x) (turnJ m i))))) Mem.empty
    rw [e, of_bits]
    exact h

def T_RTurn : List (List Int) → GR := fun l => .p (.w .u64 (rot (one l 0) (one l 1)))
end Go.Proofs.YtnghpimihklmdaaDoor

/- The document's steps (layer 12's reference). -/
namespace Go.Proofs.YtnghpimihklmdaaDoor
open Go Go.Ax
set_option linter.unusedSectionVars false
variable [JW]

theorem xo0 {z : Int} (h : okI .u64 z) : xo 0 z = z := by
  show binI .xor .u64 0 z = z
  rw [xor_nb]
  have : bv 0 = 0#64 := rfl
  rw [this, BitVec.zero_xor, nb_bv h]

def T_place : List (List Int) → GR := fun l => .p (.w .i64 (binI .add .i64 (binI .rem .i64 (binI .add .i64 (one l 0) 10) 5) (binI .mul .i64 5 (binI .rem .i64 (binI .add .i64 (one l 1) 10) 5))))
def p_place := (154, gsum [.w .i64, .w .i64] (fun _ => []) T_place)
theorem run_place (x y : Int) : callA (cfg [] []) false 100 Tryd.f154 [.one (.si .i64 x), .one (.si .i64 y)] (memG gdA) =
    .done (.one (.si .i64 (binI .add .i64 (binI .rem .i64 (binI .add .i64 x 10) 5) (binI .mul .i64 5 (binI .rem .i64 (binI .add .i64 y 10) 5))))) Mem.empty := by kernel_rfl
theorem ps_place : PSOk (cfg [] []) p_place.1 p_place.2 :=
  psok_e (cok (by simp) (by simp)) rfl rfl fn_place rfl 100 (fun fs => [.one (.si .i64 (fs 0 0)), .one (.si .i64 (fs 1 0))]) (fun _ => rfl) fun fs _ _ => ⟨_, run_place (fs 0 0) (fs 1 0), sat_same rfl⟩

/-! ## Theta -/

def colG (z : Int → Int) (es : List Int) (x : Int) : Int := xo (xo (xo (xo (z (sel es (atI x 0))) (sel es (atI x 1))) (sel es (atI x 2))) (sel es (atI x 3))) (sel es (atI x 4))
def thetaG (z : Int → Int) (es : List Int) : List Int := tab 25 fun i => xo (nth es i) (xo (colG z es ((i % 5 : Nat) - 1)) (rot (colG z es ((i % 5 : Nat) + 1)) (-1)))
theorem sel_ok {es : List Int} {i : Int} (h : ∀ e ∈ es, okI .u64 e) : okI .u64 (sel es i) := by
  unfold sel
  cases hq : es[i.toNat]? with
  | none => simp [hq]; decide
  | some x => simp [hq]; exact h x (List.mem_of_getElem? hq)
theorem thetaG_0 {es : List Int} (h : ∀ e ∈ es, okI .u64 e) : thetaG (xo 0) es = thetaL es := by
  have e : ∀ x, colG (xo 0) es x = colI es x := fun x => by unfold colG colI; rw [xo0 (sel_ok h)]
  unfold thetaG thetaL
  refine tab_congr fun i _ => ?_
  rw [e, e]
/-! ## Rho, Pi -/

theorem fn_RPi : FnOk Tryd.prog 143 Tryd.f143 := ⟨Tryd.func143, by kernel_rfl⟩
theorem run_RPi (f : Nat → Int) : callA (cfg [] [p_place]) false 3000 Tryd.f143 [L25 (tab 25 f)] (memG gdA) = .done (L25 (piL (tab 25 f))) Mem.empty := by kernel_rfl
def p_RPi := (143, gsum [.l .u64 25] (fun _ => []) T_Pi)
theorem ps_RPi : PSOk (cfg [] []) p_RPi.1 p_RPi.2 :=
  up (psok_e (C := cfg [] [p_place]) (cok (by simp) (by simp [ps_place])) rfl rfl fn_RPi rfl 3000 (fun fs => [L25 (tab 25 (fs 0))]) (fun _ => rfl) fun fs _ _ =>
    ⟨_, run_RPi (fs 0), sat_same rfl⟩)

end Go.Proofs.YtnghpimihklmdaaDoor

/- Layer 12: the laws StepMoves and StepRows, run. -/
namespace Go.Proofs.YtnghpimihklmdaaDoor
open Go Go.Ax
set_option linter.unusedSectionVars false
variable [JW]

/-- Two lists of numbers, held against each other as the program does. -/
def eqL : List Int → List Int → Bool
  | a :: l, b :: l' => (a == b) && eqL l l'
  | _, _ => true
theorem eqL_self : ∀ l, eqL l l = true
  | [] => rfl
  | a :: l => by simp [eqL, eqL_self l]

def iter (f : List Int → List Int) : Nat → List Int → List Int
  | 0, l => l
  | n + 1, l => f (iter f n l)
theorem pi24 (f : Nat → Int) : iter piL 24 (tab 25 f) = tab 25 f := by kernel_rfl
end Go.Proofs.YtnghpimihklmdaaDoor

/- Layer 12: the law StepLinear. -/
namespace Go.Proofs.YtnghpimihklmdaaDoor
open Go Go.Ax
set_option linter.unusedSectionVars false
variable [JW]

/-- Tests one behind the other: the first one that holds ends the run. -/
def falseTree : List Bool → Out
  | [] => .done (.one (.lb true)) Mem.empty
  | c :: cs => .br c (.done (.one (.lb false)) Mem.empty) (falseTree cs)
theorem falseTree_sat : ∀ {cs : List Bool}, (∀ c ∈ cs, c = false) → (falseTree cs).sat fun v _ => v = .one (.sb true) ∨ v = .one (.lb true)
  | [], _ => .inr rfl
  | c :: cs, h => ⟨fun hc => (by rw [h c (List.mem_cons_self ..)] at hc; cases hc), fun _ => falseTree_sat fun c hc => h c (List.mem_cons_of_mem _ hc)⟩

def linC (A B X : List Int) : List Bool :=
  [!(eqL (thetaL A) (thetaL A)), !(eqL (rhoL A) (rhoL A)), !(eqL (piL A) (piL A))] ++
    (List.range 25).flatMap fun i => [cmpI .neq (nth (thetaL X) i) (xo (nth (thetaL A) i) (nth (thetaL B) i)), cmpI .neq (nth (rhoL X) i) (xo (nth (rhoL A) i) (nth (rhoL B) i)), cmpI .neq (nth (piL X) i) (xo (nth (piL A) i) (nth (piL B) i))]
theorem xo_nb' (x y : Int) : xo x y = nb (bv x ^^^ bv y) := xor_nb x y
theorem bv_xo (x y : Int) : bv (xo x y) = bv x ^^^ bv y := by rw [xo_nb', bv_nb]
theorem rot_xo (x y n : Int) : rot (xo x y) n = xo (rot x n) (rot y n) := by
  rw [xo_nb' (rot x n)]
  unfold rot
  rw [bv_xo, bv_nb, bv_nb]
  congr 1
  ext i hi
  simp only [← BitVec.getLsbD_eq_getElem, BitVec.getLsbD_rotateRight, BitVec.getLsbD_xor]
  by_cases h : i < 64 - (n % 64).toNat % 64
  · simp [h]
  · simp [h, hi]
theorem xo4 (a b c d : Int) : xo (xo a b) (xo c d) = xo (xo a c) (xo b d) := by
  simp only [xo_nb', bv_nb]
  congr 1
  ac_rfl
theorem nth_tab {n i : Nat} {f : Nat → Int} (h : i < n) : nth (tab n f) i = f i := tab_get h
theorem sel_nth {es : List Int} {i : Nat} : sel es (i : Int) = nth es i := rfl

section
variable {A B : List Int}
def xorL (A B : List Int) : List Int := tab 25 fun i => xo (nth A i) (nth B i)
theorem sel_xorL (x y : Int) : sel (xorL A B) (atI x y) = xo (sel A (atI x y)) (sel B (atI x y)) := by
  have h := atI_range x y
  obtain ⟨k, hk⟩ : ∃ k : Nat, atI x y = (k : Int) := ⟨(atI x y).toNat, by omega⟩
  rw [hk, sel_nth, xorL, nth_tab (by omega)]
  rfl
theorem colI_xorL (x : Int) : colI (xorL A B) x = xo (colI A x) (colI B x) := by
  unfold colI
  simp only [sel_xorL]
  simp only [xo_nb', bv_nb]
  congr 1
  ac_rfl
theorem theta_lin {i : Nat} (h : i < 25) : nth (thetaL (xorL A B)) i = xo (nth (thetaL A) i) (nth (thetaL B) i) := by
  unfold thetaL
  rw [nth_tab h, nth_tab h, nth_tab h, colI_xorL, colI_xorL, rot_xo, xo4 (colI A _), xorL, nth_tab h, xo4]
theorem rho_lin {i : Nat} (h : i < 25) : nth (rhoL (xorL A B)) i = xo (nth (rhoL A) i) (nth (rhoL B) i) := by
  unfold rhoL
  rw [nth_tab h, nth_tab h, nth_tab h, xorL, nth_tab h, rot_xo]
theorem pi_lin {i : Nat} (h : i < 25) : nth (piL (xorL A B)) i = xo (nth (piL A) i) (nth (piL B) i) := by
  unfold piL
  rw [nth_tab h, nth_tab h, nth_tab h, xorL, nth_tab (by omega)]
end

theorem lin_all (f g : Nat → Int) : ∀ c ∈ linC (tab 25 f) (tab 25 g) (tab 25 fun i => xo (f i) (g i)), c = false := by
  have e : (tab 25 fun i => xo (f i) (g i)) = xorL (tab 25 f) (tab 25 g) := tab_congr fun i hi => by rw [nth_tab hi, nth_tab hi]
  rw [e]
  intro c hc
  unfold linC at hc
  rcases List.mem_append.1 hc with hc | hc
  · simp only [eqL_self, Bool.not_true, List.mem_cons, List.not_mem_nil, or_false, or_self] at hc
    exact hc
  · obtain ⟨i, hi, hc⟩ := List.mem_flatMap.1 hc
    have hi := List.mem_range.1 hi
    rw [theta_lin hi, rho_lin hi, pi_lin hi] at hc
    simp only [cmpI, List.mem_cons, List.not_mem_nil, or_false] at hc
    rcases hc with h | h | h <;> · rw [h]; simp

end Go.Proofs.YtnghpimihklmdaaDoor

/- Layer 12: the reference's constants (its loop by a contract), and iota. -/
namespace Go.Proofs.YtnghpimihklmdaaDoor
open Go Go.Ax
set_option linter.unusedSectionVars false
variable [JW]

/-! ## The register -/

def lfsStep (r : Int) : Int := iteI (cmpI .geq (binI .mul .i64 2 r) 256) (IntKind.i64.wrap (xo (IntKind.u64.wrap (binI .sub .i64 (binI .mul .i64 2 r) 256)) 113)) (binI .mul .i64 2 r)
def lfs : Nat → Int
  | 0 => 1
  | k + 1 => lfsStep (lfs k)

def lfsTab : List Int := [1, 2, 4, 8, 16, 32, 64, 128, 113, 226, 181, 27, 54, 108, 216, 193, 243, 151, 95, 190, 13, 26, 52, 104, 208, 209, 211, 215, 223, 207, 239, 175, 47, 94, 188, 9, 18, 36, 72, 144, 81, 162, 53, 106, 212, 217, 195, 247, 159, 79, 158, 77, 154, 69, 138, 101, 202, 229, 187, 7, 14, 28, 56, 112, 224, 177, 19, 38, 76, 152, 65, 130, 117, 234, 165, 59, 118, 236, 169, 35, 70, 140, 105, 210, 213, 219, 199, 255, 143, 111, 222, 205, 235, 167, 63, 126, 252, 137, 99, 198, 253, 139, 103, 206, 237, 171, 39, 78, 156, 73, 146, 85, 170, 37, 74, 148, 89, 178, 21, 42, 84, 168, 33, 66, 132, 121, 242, 149, 91, 182, 29, 58, 116, 232, 161, 51, 102, 204, 233, 163, 55, 110, 220, 201, 227, 183, 31, 62, 124, 248, 129, 115, 230, 189, 11, 22, 44, 88, 176, 17, 34, 68, 136, 97, 194, 245, 155, 71, 142, 109, 218, 197, 251, 135, 127, 254, 141, 107, 214, 221, 203, 231, 191, 15, 30, 60, 120, 240, 145, 83, 166, 61, 122, 244, 153, 67, 134, 125, 250, 133, 123, 246, 157, 75, 150, 93, 186, 5, 10, 20, 40, 80, 160, 49, 98, 196, 249, 131, 119, 238, 173, 43, 86, 172, 41, 82, 164, 57, 114, 228, 185, 3, 6, 12, 24, 48, 96, 192, 241, 147, 87, 174, 45, 90, 180, 25, 50, 100, 200, 225, 179, 23, 46, 92, 184, 1]
theorem lfsTab_steps : ((List.range 255).all fun k => decide (lfsStep (nth lfsTab k) = nth lfsTab (k + 1))) = true := by kernel_rfl
theorem lfs_tab : ∀ {i : Nat}, i ≤ 255 → lfs i = nth lfsTab i
  | 0, _ => rfl
  | i + 1, h => by
    have h1 := List.all_eq_true.1 lfsTab_steps i (List.mem_range.2 (by omega))
    rw [← of_decide_eq_true h1, ← lfs_tab (by omega)]
    rfl

def st_rc (t r i : Int) : TM := slots 23 [(0, .one (.si .i64 t)), (3, .one (.si .i64 r)), (4, .one (.si .i64 i))]
theorem slots1_get (v : AV) : (slots 23 [(3, v)]).get 3 = v := by kernel_rfl
def P_rc (t r i : Int) (m : Mem) (e : AE) (sz : Nat) (v0 v3 v4 : AV) (m' : Mem) : Prop :=
  sz = 23 ∧ m' = m ∧ match e with
    | .normal => i < t.tmod 255 ∧ v0 = .one (.si .i64 t) ∧ v3 = .one (.si .i64 (lfsStep r)) ∧ v4 = .one (.si .i64 (binI .add .i64 i 1))
    | .exit 0 => ¬ i < t.tmod 255 ∧ v3 = .one (.si .i64 r)
    | _ => False

def F_rc : TM → Mem → Option (List Cnd × AE × TM × Mem) := fun tm mem =>
  match Nat.beq tm.sz 23, (tm.get 0).int, tm.get 3, tm.get 4 with
  | true, .l .i64 t, .one (.li .i64 r), .one (.li .i64 i) | true, .s .i64 t, .one (.li .i64 r), .one (.li .i64 i) => match decide (r = 1) && decide (i = 0) with
    | true => some ([], .exit 0, slots 23 [(3, .one (.li .i64 (nth lfsTab (t.tmod 255).toNat)))], mem)
    | false => none
  | _, _, _, _ => none

abbrev LPs := List (Nat × Code × (TM → Mem → Option (List Cnd × AE × TM × Mem)))
noncomputable abbrev cfgLp (fns : List (Nat × Func)) (ps : PSs) (sp : SPs) (lp : LPs) : Cfg := { cfgP Tryd.prog JW.J gdA false 2 [] fns ps [] [] sp [] with lp := lp }
theorem cokLp {fns : List (Nat × Func)} {ps : PSs} {sp : SPs} {lp : LPs} (h1 : ∀ p ∈ fns, FnOk Tryd.prog p.1 p.2) (h2 : ∀ p ∈ ps, PSOk (cfg [] []) p.1 p.2) (h3 : ∀ p ∈ lp, LoopOk (cfg [] []) p.2.1 p.2.2) : COk (cfgLp fns ps sp lp) :=
  ⟨mixedM, JW.hJ, (fun p hp => by cases hp), (fun p hp => by cases hp), h1, fun p hp => (h2 p hp).cast rfl rfl rfl, fun p hp => LoopOk.cast (C := cfg [] []) (C' := cfgLp fns ps sp lp) rfl rfl rfl (h3 p hp), (fun p hp => by cases hp), (fun p hp => by cases hp), (fun p hp => by cases hp), (fun p hp => by cases hp)⟩

end Go.Proofs.YtnghpimihklmdaaDoor
