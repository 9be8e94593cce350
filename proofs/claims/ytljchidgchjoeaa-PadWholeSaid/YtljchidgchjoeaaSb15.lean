/- Layer 10's reference: the document's padding. -/
import Derived.Test.YtljchidgchjoeaaSb14
namespace Go.Proofs.Ytljchidgchjoeaa
open Go Go.Ax

/-! ## A word's bytes, the great end first -/

theorem fn_Big : FnOk Try.prog 21 Try.f21 := ⟨Try.func21, by kernel_rfl⟩
theorem fn_Little : FnOk Try.prog 43 Try.f43 := ⟨Try.func43, by kernel_rfl⟩
noncomputable def cfgX (fns : List (Nat × Func)) (ps : List (Nat × (List AV → Mem → Option (List Prop × AV)))) (fs : List (Nat × (List AV → Mem → Option (List Prop × RT)))) (lq : List (Nat × Code × (TM → Mem → (AE → TM → Mem → Out) → Out))) (sp : List (Nat × Nat × List Int)) : Cfg := { P := Try.prog, fns := fns, gl := glFrom 0 gdB, gd := gdB, ps := ps, fs := fs, lq := lq, sp := sp }
theorem cokX {fns : List (Nat × Func)} {ps : List (Nat × (List AV → Mem → Option (List Prop × AV)))} {fs : List (Nat × (List AV → Mem → Option (List Prop × RT)))} {lq : List (Nat × Code × (TM → Mem → (AE → TM → Mem → Out) → Out))} {sp : List (Nat × Nat × List Int)}
    (h1 : ∀ p ∈ fns, FnOk Try.prog p.1 p.2) (h2 : ∀ p ∈ ps, PSOk (cfgB [] [] []) p.1 p.2) (h3 : ∀ p ∈ fs, FOk (cfgB [] [] []) p.1 p.2) (h4 : ∀ p ∈ lq, LoopQ (cfgB [] [] []) p.2.1 p.2.2) : COk (cfgX fns ps fs lq sp) :=
  ⟨mixedB, h1, fun p hp => (h2 p hp).cast rfl rfl rfl, (fun p hp => by cases hp), (fun p hp => by cases hp), (fun p hp => by cases hp), (fun p hp => LoopQ.cast (C := cfgB [] [] []) (C' := cfgX fns ps fs lq sp) rfl rfl rfl (h4 p hp)), fun p hp => FOk.cast (C := cfgB [] [] []) (C' := cfgX fns ps fs lq sp) rfl rfl rfl (h3 p hp)⟩
theorem upX {fns : List (Nat × Func)} {ps : List (Nat × (List AV → Mem → Option (List Prop × AV)))} {fs : List (Nat × (List AV → Mem → Option (List Prop × RT)))} {lq : List (Nat × Code × (TM → Mem → (AE → TM → Mem → Out) → Out))} {sp : List (Nat × Nat × List Int)} {g : Nat} {F : List AV → Mem → Option (List Prop × RT)}
    (h : FOk (cfgX fns ps fs lq sp) g F) : FOk (cfgB [] [] []) g F := FOk.cast (C := cfgX fns ps fs lq sp) (C' := cfgB [] [] []) rfl rfl rfl h

def littleI (x : Int) : Nat → List Int
  | 0 => []
  | n + 1 => IntKind.u8.wrap (binI .rem .u64 x 256) :: littleI (binI .quo .u64 x 256) n
/-- One number behind none. -/
def app0 (b : Int) (o : R2) : R2 := .need (0 < [b].length) (.need (([] ++ [b]).length ≤ 140737488355328 ∧ ([] ++ [b]).length * 1 ≤ 140737488355328) o)
def appAll0 : List Int → (Nat → List Int → R2) → R2
  | [], f => f 0 []
  | b :: bs, f => app0 b (appAll bs ([] ++ [b]).length ([] ++ [b]) f)
def pickR (L : List Int) (n : Nat) (k : Int) (o : R2) : R2 := .need (0 ≤ k) (.need (k < (n : Int)) (.need (0 ≤ ((0 : Nat) : Int) + k) (.need (((0 : Nat) : Int) + k < (L.length : Int)) o)))
def pickAll (L : List Int) (n : Nat) : List Int → Nat → List Int → (Nat → List Int → R2) → R2
  | [], m, M, f => f m M
  | k :: ks, m, M, f => pickR L n k (app1 m M (sel L (((0 : Nat) : Int) + k)) (pickAll L n ks (M ++ [sel L (((0 : Nat) : Int) + k)]).length (M ++ [sel L (((0 : Nat) : Int) + k)]) f))
def pickAll0 (L : List Int) (n : Nat) : List Int → (Nat → List Int → R2) → R2
  | [], f => f 0 []
  | k :: ks, f => pickR L n k (app0 (sel L (((0 : Nat) : Int) + k)) (pickAll L n ks ([] ++ [sel L (((0 : Nat) : Int) + k)]).length ([] ++ [sel L (((0 : Nat) : Int) + k)]) f))
theorem run_Big (x s : Int) : (callA (cfgX [(43, Try.f43)] [] [] [] [(0, 1, [8])]) true 1000 Try.f21 [.one (.si .u64 x), .one (.si .i64 s)] (memX gdB [.gone, .gone, .gone, .gone])).view =
    .br (decide (s = 8)) (appAll0 (littleI x 8) fun n L => pickAll0 L n [7, 6, 5, 4, 3, 2, 1, 0] fun m M => .leaf (.p (.c (.s 5 .u8 M))) [m] [50]) (.bad 30) := by kernel_rfl

theorem pickAll_sat {K : RS → List Nat → List Nat → Prop} {f : Nat → List Int → R2} {L : List Int} : ∀ (ks : List Int) (m : Nat) (M : List Int), m = M.length → M.length + ks.length ≤ 140737488355328 → (∀ k ∈ ks, 0 ≤ k ∧ k < (L.length : Int)) → (f (M ++ ks.map fun k => sel L (((0 : Nat) : Int) + k)).length (M ++ ks.map fun k => sel L (((0 : Nat) : Int) + k))).sat K → (pickAll L L.length ks m M f).sat K
  | [], m, M, hm, _, _, h => by subst hm; simpa [pickAll] using h
  | k :: ks, m, M, hm, hl, hk, h => by
    simp only [List.length_cons] at hl
    obtain ⟨h1, h2⟩ := hk k (List.mem_cons_self ..)
    refine ⟨h1, h2, by omega, by omega, hm, trivial, by simp; omega, pickAll_sat ks _ _ rfl (by simp; omega) (fun k' hk' => hk k' (List.mem_cons_of_mem _ hk')) ?_⟩
    rw [List.append_assoc]
    exact h
theorem pickAll0_sat {K : RS → List Nat → List Nat → Prop} {f : Nat → List Int → R2} {L : List Int} : ∀ (ks : List Int), ks.length ≤ 140737488355328 → (∀ k ∈ ks, 0 ≤ k ∧ k < (L.length : Int)) → (f (ks.map fun k => sel L (((0 : Nat) : Int) + k)).length (ks.map fun k => sel L (((0 : Nat) : Int) + k))).sat K → (pickAll0 L L.length ks f).sat K
  | [], _, _, h => h
  | k :: ks, hl, hk, h => by
    simp only [List.length_cons] at hl
    obtain ⟨h1, h2⟩ := hk k (List.mem_cons_self ..)
    exact ⟨h1, h2, by omega, by omega, by simp, by simp, pickAll_sat ks _ _ rfl (by simp; omega) (fun k' hk' => hk k' (List.mem_cons_of_mem _ hk')) h⟩
theorem appAll0_sat {K : RS → List Nat → List Nat → Prop} {f : Nat → List Int → R2} : ∀ (bs : List Int), bs.length ≤ 140737488355328 → (f bs.length bs).sat K → (appAll0 bs f).sat K
  | [], _, h => h
  | b :: bs, hl, h => by
    simp only [List.length_cons] at hl
    exact ⟨by simp, by simp, appAll_sat bs _ _ rfl (by simp; omega) h⟩
theorem littleI_len {x : Int} : ∀ {n : Nat}, (littleI x n).length = n
  | 0 => rfl
  | n + 1 => by simp [littleI, littleI_len (n := n)]
/-- A word's bytes, the great end first. -/
def bigI (x : Int) : List Int := [7, 6, 5, 4, 3, 2, 1, 0].map fun k => sel (littleI x 8) (((0 : Nat) : Int) + k)
def T_Big : List (List Int) → List Int := fun l => bigI (one l 0)
def q_Big := (21, fsum [.one (.w .u64), .one (.w .i64)] (fun l => [one l 1 = 8]) fun l => .one (.p (.c (.s 5 .u8 (T_Big l)))))
theorem qs_Big : FOk (cfgB [] [] []) q_Big.1 q_Big.2 :=
  upX (fok_run (C := cfgX [(43, Try.f43)] [] [] [] [(0, 1, [8])]) (shs := [.one (.w .u64), .one (.w .i64)]) (T := fun l => .one (.p (.c (.s 5 .u8 (T_Big l))))) (conds := fun l => [one l 1 = 8]) (cokX (by simp [fn_Little]) (by simp) (by simp) (by simp)) rfl rfl fn_Big rfl 1000 fun Ms _ hc => ⟨_, rfl, view_sat (by
    have hc : (Ms 1).getD 0 0 = 8 := hc.1
    refine Eq.mpr (congrArg (R2.sat _) (run_Big ((Ms 0).getD 0 0) ((Ms 1).getD 0 0))) ?_
    refine ⟨fun _ => ?_, fun he => absurd hc (of_decide_eq_false he)⟩
    refine appAll0_sat _ (by rw [littleI_len]; omega) (pickAll0_sat _ (by simp) ?_ ⟨rfl, ⟨rfl, trivial⟩, by simp⟩)
    rw [littleI_len]
    intro k hk
    simp only [List.mem_cons, List.not_mem_nil, or_false] at hk
    omega)⟩)

/-! ## The padding -/

structure IRof where
  t : TypeId
  h : Int
  l : Int
  s : Int
  n : Nat
  L : List Int
  t8 : TypeId
  M : List Int
  m : Nat
noncomputable def bd_rof : Code := loopAt Try.f25 0
def bl_rof (x : IRof) (L : List Int) : List AB := [.seq 5 .u8 L 1, .gone, .cells x.t [.si .u64 x.h, .si .u64 x.l], .seq x.t8 .u8 x.M 4, .gone]
def pi_rof (s : LS) : Option IRof := match s with
  | ⟨[(9, .one (.sq 0 1 0 n)), (1, y), (2, .one (.ptr 2 0)), (8, .one (.sq 3 4 0 m))], [.seq t9 .u8 L 1, .gone, .cells t [.si .u64 h, .si .u64 l], .seq t8 .u8 M 4, .gone]⟩ => match i64? y, Nat.beq t9 5 with
    | some s, true => some ⟨t, h, l, s, n, L, t8, M, m⟩
    | _, _ => none
  | _ => none
noncomputable def F_rof (ok : IRof → Prop) (fin : IRof → List Int) : TM → Mem → (AE → TM → Mem → Out) → Out := lqF gdB 56 [9] [9, 1, 2, 8] [.of 9, .of 2, .of 8] [true, true, false, false, false] pi_rof ok fun x k => k (.exit 0) ⟨[(9, .one (.sq 0 1 0 (fin x).length)), (1, .one (.si .i64 x.s)), (2, .one (.ptr 2 0)), (8, .one (.sq 3 4 0 x.m))], bl_rof x (fin x)⟩
noncomputable def cROf (U : List (List Int) → Bool) (V : List (List Int) → GR) (T : List (List Int) → List Int)  (ok : IRof → Prop) (fin : IRof → List Int) : Cfg :=
  { P := Try.prog, fns := [], gl := glFrom 0 gdB, gd := gdB, ps := [(27, gsum [.l .u64 2, .w .i64] (fun _ => []) fun l => .p (.b (U l))), (30, gsum [.l .u64 2] (fun _ => []) V)], fs := [(21, fsum [.one (.w .u64), .one (.w .i64)] (fun l => [one l 1 = 8]) fun l => .one (.p (.c (.s 5 .u8 (T l)))))], lq := [(9, bd_rof, F_rof ok fin)], sp := [(3, 1, [64, 128])] }

def lenP (L : List Int) : Prop := L.length ≤ 140737488355328 ∧ L.length * 1 ≤ 140737488355328
noncomputable def rofEnd (ok : IRof → Prop) (fin : IRof → List Int) (x : IRof) (b : Nat) : R2 :=
  needR [bd_rof = bd_rof, ok x, (fin x).length = (fin x).length, 0 + x.m ≤ x.M.length, True, lenP (fin x ++ partQ x.M 0 x.m)] (.leaf (.t [.c (.s 5 .u8 (fin x ++ partQ x.M 0 x.m)), .c (.b true)]) [(fin x ++ partQ x.M 0 x.m).length, 0] [b])
noncomputable def rof64 (ok : IRof → Prop) (fin : IRof → List Int) (h l : Int) (Q : List Int) : R2 :=
  needR [(8 : Int) = 8, 0 + Q.length ≤ Q.length, 0 < (partQ Q 0 Q.length).length, lenP ([] ++ partQ Q 0 Q.length)] (rofEnd ok fin ⟨24, h, l, 64, 1, [128], 5, [] ++ partQ Q 0 Q.length, ([] ++ partQ Q 0 Q.length).length⟩ 17)
noncomputable def rof128 (ok : IRof → Prop) (fin : IRof → List Int) (h l : Int) (P Q : List Int) : R2 :=
  needR [(8 : Int) = 8, (8 : Int) = 8, P.length = P.length, 0 + Q.length ≤ Q.length, True, lenP (P ++ partQ Q 0 Q.length)] (rofEnd ok fin ⟨24, h, l, 128, 1, [128], 5, P ++ partQ Q 0 Q.length, (P ++ partQ Q 0 Q.length).length⟩ 19)
noncomputable def rofC (U : List (List Int) → Bool) (a b : List (List Int) → Int) (T : List (List Int) → List Int) (ok : IRof → Prop) (fin : IRof → List Int) (h l s : Int) : R2 :=
  .br (!U [[h, l], [s]]) (.leaf (.t [.c .e, .c (.b false)]) [0, 0] []) (.br (decide (s = 64)) (rof64 ok fin h l (T [[b [[h, l]]], [8]])) (.br (decide (s = 128)) (rof128 ok fin h l (T [[a [[h, l]]], [8]]) (T [[b [[h, l]]], [8]])) (.bad 30)))
theorem run_ROf (U : List (List Int) → Bool) (a b : List (List Int) → Int) (c : List (List Int) → Bool) (T : List (List Int) → List Int) (ok : IRof → Prop) (fin : IRof → List Int) (h l s : Int) :
    (callA (cROf U (fun l => .t [.l .u64 [a l, b l], .b (c l)]) T ok fin) true 1000 Try.f25 [C2 h l, .one (.si .i64 s)] (memX gdB [.gone, .gone, .gone, .gone])).view =
    .br (cmpI .neq s 64) (.br (cmpI .neq s 128) (.leaf (.t [.c .e, .c (.b false)]) [0, 0] []) (rofC U a b T ok fin h l s)) (rofC U a b T ok fin h l s) := by kernel_rfl
end Go.Proofs.Ytljchidgchjoeaa
