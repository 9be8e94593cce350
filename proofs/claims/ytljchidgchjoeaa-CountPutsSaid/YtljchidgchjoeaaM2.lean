/- Layer 03's reference: the same bytes? -/
import Derived.Test.YtljchidgchjoeaaM1
namespace Go.Proofs.Ytljchidgchjoeaa
open Go Go.Ax
set_option linter.unusedSectionVars false
variable [JW]

theorem fn_Same : FnOk Try.prog 20 Try.f20 := ⟨Try.func20, by kernel_rfl⟩
noncomputable def bd_same : Code := loopAt Try.f20 0
structure ISame where
  n : Nat
  m : Nat
  L : List Int
  M : List Int
  i : Int
def bl_same (L M : List Int) : List AB := [.rseq .u8 L 1, .gone, .rseq .u8 M 3, .gone]
def St_same (x : ISame) : LS := ⟨[(4, .any), (0, .one (.slr 0 1 0 x.n)), (1, .one (.slr 2 3 0 x.m)), (5, .one (.si .i64 x.i))], bl_same x.L x.M⟩
def pi_same (s : LS) : Option ISame := match s with
  | ⟨[(4, _), (0, .one (.slr 0 1 0 n)), (1, .one (.slr 2 3 0 m)), (5, x)], [.rseq .u8 L 1, .gone, .rseq .u8 M 3, .gone]⟩ => match i64? x with
    | some i => some ⟨n, m, L, M, i⟩
    | none => none
  | _ => none
theorem pi_same_fits (s : LS) (x : ISame) (h : pi_same s = some x) : s.fits (St_same x) := by
  unfold pi_same at h
  split at h
  · split at h
    · rename_i i hi
      cases h
      exact ⟨⟨rfl, .inr (.inr rfl), rfl, .inl rfl, rfl, .inl rfl, rfl, i64_fits hi, trivial⟩, rfl⟩
    · cases h
  · cases h
theorem run_bd_same (x : ISame) (X : AE → Option LS → Prop) :
    exec cM 100 (.run bd_same) (slots 26 (St_same x).sl) (memX gdM (St_same x).bl) (endX 0 26 [4, 0, 1, 5] [.fix 0, .fix 1, .fix 2, .fix 3] [false, false, false, false] X) =
    .br (cmpI .lss x.i (x.n : Int)) (.need (0 ≤ x.i) (.need (x.i < (x.n : Int)) (.need (0 ≤ ((0 : Nat) : Int) + x.i) (.need (((0 : Nat) : Int) + x.i < (x.L.length : Int)) (.need (0 ≤ x.i) (.need (x.i < (x.m : Int)) (.need (0 ≤ ((0 : Nat) : Int) + x.i) (.need (((0 : Nat) : Int) + x.i < (x.M.length : Int))
        (.br (cmpI .neq (sel x.L (((0 : Nat) : Int) + x.i)) (sel x.M (((0 : Nat) : Int) + x.i)))
          (.need (X .ret (some ⟨[(4, .one (.lb false)), (0, .one (.slr 0 1 0 x.n)), (1, .one (.slr 2 3 0 x.m)), (5, .one (.si .i64 x.i))], bl_same x.L x.M⟩)) (.done .any Mem.empty))
          (.need (X .normal (some ⟨[(4, .any), (0, .one (.slr 0 1 0 x.n)), (1, .one (.slr 2 3 0 x.m)), (5, .one (.si .i64 (binI .add .i64 x.i 1)))], bl_same x.L x.M⟩)) (.done .any Mem.empty)))))))))))
      (.need (X (.exit 0) (some ⟨[(4, .any), (0, .one (.slr 0 1 0 x.n)), (1, .one (.slr 2 3 0 x.m)), (5, .one (.si .i64 x.i))], bl_same x.L x.M⟩)) (.done .any Mem.empty)) := by kernel_rfl
def Inv_same (x : ISame) : Prop := x.n = x.L.length ∧ x.m = x.M.length ∧ x.n = x.m ∧ x.n ≤ 9223372036854775807 ∧ ∃ j : Nat, x.i = (j : Int) ∧ j ≤ x.n ∧ x.L.take j = x.M.take j
def ok_same (x : ISame) : Prop := x.n = x.L.length ∧ x.m = x.M.length ∧ x.n = x.m ∧ x.n ≤ 9223372036854775807 ∧ x.i = 0
def Ex_same (x : ISame) (e : AE) (s : LS) : Prop := (e = .exit 0 ∧ x.L = x.M ∧ s = ⟨[], bl_same x.L x.M⟩) ∨ (e = .ret ∧ x.L ≠ x.M ∧ s = ⟨[(4, .one (.lb false))], bl_same x.L x.M⟩)
noncomputable def F_same : TM → Mem → Option ((AE → TM → Mem → Out) → Out) := lqF gdM 26 [] [4, 0, 1, 5] [.of 0, .of 1] [false, false, false, false] pi_same ok_same fun x k => .br (decide (x.L = x.M)) (k (.exit 0) ⟨[], bl_same x.L x.M⟩) (k .ret ⟨[(4, .one (.lb false))], bl_same x.L x.M⟩)
theorem lq_same : LoopQ cM bd_same F_same := by
  refine lq_rule (C := cM) (cokM mem0 mem0 mem0 mem0) rfl (n := 100) (ri := [.fix 0, .fix 1, .fix 2, .fix 3]) (St := St_same) (Inv := Inv_same) (mu := fun x => (x.n - x.i).toNat) (Ex := Ex_same) pi_same_fits (fun x h => ?_) (fun K k x _ hs e s he => ?_) (fun x hI => ?_)
  · obtain ⟨h1, h2, h3, h4, h5⟩ := h
    exact ⟨h1, h2, h3, h4, 0, h5, Nat.zero_le _, rfl⟩
  · rcases he with ⟨rfl, h, rfl⟩ | ⟨rfl, h, rfl⟩
    · exact hs.1 (decide_eq_true h)
    · exact hs.2 (decide_eq_false h)
  · show Out.sat (fun _ _ => True) (exec cM 100 (.run bd_same) (slots 26 (St_same x).sl) (memX gdM (St_same x).bl) (endX 0 26 [4, 0, 1, 5] [.fix 0, .fix 1, .fix 2, .fix 3] [false, false, false, false] _))
    rw [run_bd_same]
    obtain ⟨n, m, L, M, i⟩ := x
    obtain ⟨h1, h2, h3, h4, j, h5, h6, h7⟩ := hI
    dsimp only at h1 h2 h3 h4 h5 h6 h7 ⊢
    subst h5 h1
    refine ⟨fun hc => ?_, fun hc => ⟨⟨_, .inl ⟨rfl, ?_, rfl⟩, trivial, rfl⟩, trivial⟩⟩
    · have hc : (j : Int) < L.length := of_decide_eq_true hc
      have hj : j < L.length := by omega
      have hj' : j < M.length := by omega
      refine ⟨by omega, hc, by omega, by omega, by omega, by omega, by omega, by omega, fun hd => ?_, fun hd => ?_⟩
      · rw [sel_at hj, sel_at hj'] at hd
        have hd : L[j] ≠ M[j] := by simpa [cmpI] using hd
        refine ⟨⟨_, .inr ⟨rfl, fun e => hd (by simp only at e; subst e; rfl), rfl⟩, ⟨rfl, .inl rfl, trivial⟩, rfl⟩, trivial⟩
      · rw [sel_at hj, sel_at hj'] at hd
        have hd : L[j] = M[j] := by simpa [cmpI] using hd
        have hi' : binI .add .i64 (j : Int) 1 = ((j + 1 : Nat) : Int) := by
          show IntKind.i64.wrap _ = _
          rw [wrap_ok (ok64 (by omega) (by omega))]; omega
        refine ⟨⟨⟨L.length, m, L, M, ((j + 1 : Nat) : Int)⟩, ⟨rfl, h2, h3, h4, j + 1, rfl, by simp only; omega, ?_⟩, by simp only; omega, fun e s' h => h, ⟨rfl, .inl rfl, rfl, .inl rfl, rfl, .inl rfl, rfl, .inl (by rw [hi']), trivial⟩, rfl⟩, trivial⟩
        rw [List.take_succ_eq_append_getElem hj, List.take_succ_eq_append_getElem hj', h7, hd]
    · have hc : ¬ (j : Int) < L.length := of_decide_eq_false hc
      have : j = L.length := by omega
      subst this
      rw [List.take_length] at h7
      rw [h7, List.take_of_length_le (by omega)]

theorem run_Same (n m : Nat) (L M : List Int) : (callA (cfgM [] [] [] [(4, bd_same, F_same)] []) true 100 Try.f20 [.one (.slr 0 1 0 n), .one (.slr 2 3 0 m)] (memX gdM (bl_same L M))).view =
    .br (cmpI .neq (n : Int) (m : Int)) (.leaf (.p (.c (.b false))) [0] []) (.need (bd_same = bd_same) (.need (ok_same ⟨n, m, L, M, 0⟩)
      (.br (decide (L = M)) (.leaf (.p (.c (.b true))) [0] []) (.leaf (.p (.c (.b false))) [0] [])))) := by kernel_rfl
def T_Same : List (List Int) → RT := fun l => .one (.p (.c (.b (decide (l.getD 0 [] = l.getD 1 [])))))
def q_Same := (20, fsum [.one (.s .u8), .one (.s .u8)] (fun _ => []) T_Same)
set_option maxRecDepth 100000 in
theorem qs_Same : FOk cM q_Same.1 q_Same.2 :=
  upM (fok_run (C := cfgM [] [] [] [(4, bd_same, F_same)] []) (shs := [.one (.s .u8), .one (.s .u8)]) (T := T_Same) (cokM mem0 mem0 mem0 (mem1 lq_same)) rfl rfl fn_Same (by kernel_rfl) 100 fun Ms hok _ => ⟨_, rfl, view_sat (by
    have h1 : (Ms 0).length ≤ 9223372036854775807 := hok.1.1
    show R2.sat _ (callA (cfgM [] [] [] [(4, bd_same, F_same)] []) true 100 Try.f20 [.one (.slr 0 1 0 (Ms 0).length), .one (.slr 2 3 0 (Ms 1).length)] (memX gdM (bl_same (Ms 0) (Ms 1)))).view
    rw [run_Same]
    show R2.sat (RS.met (.p (.c (.b (decide (Ms 0 = Ms 1)))))) _
    refine ⟨fun hc => ?_, fun hc => ⟨rfl, ⟨rfl, rfl, ?_, h1, rfl⟩, fun hd => ?_, fun hd => ?_⟩⟩
    · have : Ms 0 ≠ Ms 1 := fun e => by rw [e] at hc; simp [cmpI] at hc
      rw [decide_eq_false this]; exact met_b rfl rfl
    · have : ((Ms 0).length : Int) = (Ms 1).length := by simpa [cmpI] using hc
      simp only; omega
    · rw [hd]; exact met_b rfl rfl
    · rw [hd]; exact met_b rfl rfl)⟩)

end Go.Proofs.Ytljchidgchjoeaa
