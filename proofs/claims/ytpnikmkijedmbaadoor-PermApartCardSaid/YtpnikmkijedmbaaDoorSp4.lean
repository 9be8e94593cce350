/- Layer 13: the document's rounds, by their loop's contract. -/
import Derived.Test.YtpnikmkijedmbaaDoorSp3
namespace Go.Proofs.YtpnikmkijedmbaaDoor
open Go Go.Ax

def pR13RoundV (R : List Int → Int → Nat → Int) := (30, gsum [.l .u64 25, .w .i64] (fun _ => []) fun l => .p (.l .u64 (tab 25 (R (row0 l) (one l 1)))))
noncomputable def bd_rr : Code := loopAt Tryd.f34 0
noncomputable def cRRL (R : List Int → Int → Nat → Int) : Cfg := cfg [] [pR13RoundV R]
def si25 (l : List Int) : List SV := l.map (.si .u64)
def st_rr (a b i : Int) (v6 : Value) : TM := slots 24 [(1, .one (.si .i64 a)), (2, .one (.si .i64 b)), (3, .one (.ptr 2 0)), (6, .one (.raw v6)), (7, .one (.si .i64 i))]
def mem_rr (t : TypeId) (f : Nat → Int) : Mem := memX gdA [.cells t (si25 (tab 25 f))]
theorem run_bd_rr (R : List Int → Int → Nat → Int) (f : Nat → Int) (a b i : Int) (v6 : Value) (t : TypeId) (G : AE → Nat → AV → AV → AV → AV → AV → Mem → Out) :
    exec (cRRL R) 100 (.run bd_rr) (st_rr a b i v6) (mem_rr t f) (fun e tm m => G e tm.sz (tm.get 1) (tm.get 2) (tm.get 3) (tm.get 6) (tm.get 7) m) =
    .br (cmpI .lss i 24) (.br (cmpI .geq i a)
        (.br (cmpI .lss i b)
          (G .normal 24 (.one (.si .i64 a)) (.one (.si .i64 b)) (.one (.ptr 2 0)) (.one (.raw v6)) (.one (.si .i64 (binI .add .i64 i 1))) (mem_rr t (R (tab 25 f) i)))
          (G .normal 24 (.one (.si .i64 a)) (.one (.si .i64 b)) (.one (.ptr 2 0)) (.one (.raw v6)) (.one (.si .i64 (binI .add .i64 i 1))) (mem_rr t f)))
        (G .normal 24 (.one (.si .i64 a)) (.one (.si .i64 b)) (.one (.ptr 2 0)) (.one (.raw v6)) (.one (.si .i64 (binI .add .i64 i 1))) (mem_rr t f)))
      (G (.exit 0) 24 (.one (.si .i64 a)) (.one (.si .i64 b)) (.one (.ptr 2 0)) (.one (.raw v6)) (.one (.si .i64 i)) (mem_rr t f)) := by kernel_rfl

def stepF (R : List Int → Int → Nat → Int) (a b i : Int) (f : Nat → Int) : Nat → Int := if a ≤ i ∧ i < b then R (tab 25 f) i else f
def P_rr (R : List Int → Int → Nat → Int) (f : Nat → Int) (a b i : Int) (v6 : Value) (t : TypeId) (e : AE) (sz : Nat) (w1 w2 w3 w6 w7 : AV) (m : Mem) : Prop :=
  sz = 24 ∧ w3 = .one (.ptr 2 0) ∧ w6 = .one (.raw v6) ∧ match e with
    | .normal => i < 24 ∧ w1 = .one (.si .i64 a) ∧ w2 = .one (.si .i64 b) ∧ w7 = .one (.si .i64 (binI .add .i64 i 1)) ∧ m = mem_rr t (stepF R a b i f)
    | .exit 0 => ¬ i < 24 ∧ m = mem_rr t f
    | _ => False
theorem sat_rr (R : List Int → Int → Nat → Int) (f : Nat → Int) (a b i : Int) (v6 : Value) (t : TypeId) :
    (exec (cRRL R) 100 (.run bd_rr) (st_rr a b i v6) (mem_rr t f) (endAt fun e tm m => P_rr R f a b i v6 t e tm.sz (tm.get 1) (tm.get 2) (tm.get 3) (tm.get 6) (tm.get 7) m)).sat (fun _ _ => True) := by
  have := run_bd_rr R f a b i v6 t (fun e sz w1 w2 w3 w6 w7 m => .need (P_rr R f a b i v6 t e sz w1 w2 w3 w6 w7 m) (.done .any Mem.empty))
  unfold endAt
  rw [this]
  refine ⟨fun h => ⟨fun h1 => ⟨fun h2 => ⟨⟨rfl, rfl, rfl, ?_, rfl, rfl, rfl, ?_⟩, trivial⟩, fun h2 => ⟨⟨rfl, rfl, rfl, ?_, rfl, rfl, rfl, ?_⟩, trivial⟩⟩, fun h1 => ⟨⟨rfl, rfl, rfl, ?_, rfl, rfl, rfl, ?_⟩, trivial⟩⟩, fun h => ⟨⟨rfl, rfl, rfl, ?_, rfl⟩, trivial⟩⟩
  · exact of_decide_eq_true h
  · unfold stepF
    rw [if_pos ⟨of_decide_eq_true h1, of_decide_eq_true h2⟩]
  · exact of_decide_eq_true h
  · unfold stepF
    rw [if_neg fun q => of_decide_eq_false h2 q.2]
  · exact of_decide_eq_true h
  · unfold stepF
    rw [if_neg fun q => of_decide_eq_false h1 q.1]
  · exact of_decide_eq_false h

/-- What the rounds from one on come to. -/
def refF (R : List Int → Int → Nat → Int) (a b : Int) : Nat → Nat → (Nat → Int) → (Nat → Int)
  | 0, _, f => f
  | d + 1, i, f => refF R a b d (i + 1) (stepF R a b (i : Int) f)

theorem rr_rounds {R : List Int → Int → Nat → Int} (hC : COk (cRRL R)) {B : Nat → Prop} {w0 : World} {Q : Exit → Act → World → Prop} (a b : Int) (v6 : Value) (t : TypeId) : ∀ (d i : Nat) (f : Nat → Int), 24 - i = d → i ≤ 24 → ∀ (env0 env : Nat → Nat) (ac : Act) (w : World),
    Rel (cRRL R) B w0 env (st_rr a b i v6) (mem_rr t f) ac w → Ext env0 3 env 3 →
    (∀ env' a' w', Rel (cRRL R) B w0 env' (slots 24 [(3, .one (.ptr 2 0)), (6, .one (.raw v6))]) (mem_rr t (refF R a b d i f)) a' w' → Ext env0 3 env' 3 → Q (.exit 0) a' w') → InLoop Tryd.prog bd_rr Q ac w := by
  intro d
  induction d with
  | zero =>
    intro i f hd hi env0 env ac w hr hx hk
    refine InLoop.round (body_step (C := cRRL R) hC (n := 100) (sat_rr R f a b i v6 t) hr ?_)
    intro e tm' mem' env' a' w' hP hR hE
    obtain ⟨hs, h3, h6, hP⟩ := hP
    cases e with
    | normal => have := hP.1; omega
    | exit id =>
      match id, hP with
      | 0, hP =>
        obtain ⟨_, rfl⟩ := hP
        refine hk env' a' w' (hR.slots hs fun p hp env m v hv => ?_) (hx.trans hE)
        simp only [List.mem_cons, List.not_mem_nil, or_false] at hp
        rcases hp with rfl | rfl
        · rw [h3] at hv; exact hv
        · rw [h6] at hv; exact hv
    | goto l => exact hP.elim
    | ret => exact hP.elim
  | succ d ih =>
    intro i f hd hi env0 env ac w hr hx hk
    refine InLoop.round (body_step (C := cRRL R) hC (n := 100) (sat_rr R f a b i v6 t) hr ?_)
    intro e tm' mem' env' a' w' hP hR hE
    obtain ⟨hs, h3, h6, hP⟩ := hP
    cases e with
    | normal =>
      obtain ⟨hlt, h1, h2, h7, rfl⟩ := hP
      refine ih (i + 1) (stepF R a b i f) (by omega) (by omega) env0 env' a' w' (hR.slots hs fun p hp env m v hv => ?_) (hx.trans hE) hk
      simp only [List.mem_cons, List.not_mem_nil, or_false] at hp
      have hi' : binI .add .i64 (i : Int) 1 = ((i + 1 : Nat) : Int) := by rw [add64 (by omega) (by omega)]; omega
      rcases hp with rfl | rfl | rfl | rfl | rfl
      · rw [h1] at hv; exact hv
      · rw [h2] at hv; exact hv
      · rw [h3] at hv; exact hv
      · rw [h6] at hv; exact hv
      · rw [h7, hi'] at hv; exact hv
    | exit id =>
      match id, hP with
      | 0, hP => have := hP.1; omega
    | goto l => exact hP.elim
    | ret => exact hP.elim

/-! ## The contract -/

def i64? : AV → Option Int
  | .one (.li .i64 n) => some n
  | .one (.si .i64 n) => some n
  | _ => none
theorem i64_R {x : AV} {n : Int} (h : i64? x = some n) {env : Nat → Nat} {m : Nat} {v : Value} (hv : x.R env m v) {env' : Nat → Nat} {m' : Nat} : (AV.one (.si .i64 n)).R env' m' v := by
  unfold i64? at h
  split at h
  · cases h; exact hv
  · cases h; exact hv
  · cases h
def cellsN (k : IntKind) (n : Nat) (mem : Mem) (b : Nat) : Option (TypeId × List Int) := match mem.get b with
  | some (.cells t l) => match intsOf k l with
    | some es => match Nat.beq es.length n with | true => some (t, es) | false => none
    | none => none
  | _ => none
theorem cellsN_spec {k : IntKind} {n : Nat} {mem : Mem} {b : Nat} {t : TypeId} {es : List Int} (h : cellsN k n mem b = some (t, es)) : ∃ l, mem.get b = some (.cells t l) ∧ intsOf k l = some es ∧ es.length = n := by
  unfold cellsN at h
  split at h
  · rename_i t' l hl
    split at h
    · rename_i es' he
      split at h
      · rename_i hn; cases h; exact ⟨l, hl, he, Nat.eq_of_beq_eq_true hn⟩
      · cases h
    · cases h
  · cases h

def F_rr (R : List Int → Int → Nat → Int) : TM → Mem → Option (List Prop × AE × TM × Mem) := fun tm mem =>
  match tm.get 3, i64? (tm.get 1), i64? (tm.get 2), tm.get 7 with
  | .one (.ptr p o), some a, some b, .one (.li .i64 i) => match cellsN .u64 25 mem p, Nat.beq tm.sz 24 && Nat.beq o 0 && decide (i = 0) && known (tm.get 6) with
    | some (t, es), true => some ([], .exit 0, slots 24 [(3, tm.get 3), (6, tm.get 6)], mem.set p (.cells t (si25 (tab 25 (refF R a b 24 0 (nth es))))))
    | _, _ => none
  | _, _, _, _ => none

theorem slots_rr3 (x y : AV) : (slots 24 [(3, x), (6, y)]).get 3 = x := by kernel_rfl
theorem slots_rr6 (x y : AV) : (slots 24 [(3, x), (6, y)]).get 6 = y := by kernel_rfl
theorem lp_rr {R : List Int → Int → Nat → Int} (hC : COk (cRRL R)) : LoopOk (cfg [] []) bd_rr (F_rr R) := by
  intro tm mem ps e tm' mem' hF _ B w0 env ac w Q0 hr hk
  unfold F_rr at hF
  split at hF
  · rename_i p o a b i h3 h1 h2 h7
    split at hF
    · rename_i t es hp hc
      simp only [Bool.and_eq_true, decide_eq_true_eq, Nat.beq_eq] at hc
      obtain ⟨⟨⟨hsz, rfl⟩, rfl⟩, k6⟩ := hc
      cases hF
      obtain ⟨lp, hp1, hp2, hp3⟩ := cellsN_spec hp
      obtain ⟨vp, bp1, bp2, bp3⟩ := hr.mem.blk p _ hp1
      have hBb : ∀ k, B k → but w (env p) k := fun k hk => ⟨hr.mem.base k hk, fun e => bp3 (e ▸ hk)⟩
      have hints : ∀ (env' : Nat → Nat) (m' : Nat), All2 (SV.R env' m') (si25 (tab 25 (nth es))) vp := fun env' m' => by
        obtain ⟨q1, q2⟩ := intsOf_R hp2 bp2
        rw [q1, show tab 25 (nth es) = es from tab_self hp3]
        exact All2.both _ _ es fun e he => ⟨q2 e he, rfl⟩
      have hmr : MR (cRRL R) (but w (env p)) w (envX gdA [env p]) (mem_rr t (nth es)) w := by
        refine MR.focus (C := cRRL R) rfl (fun g hg => ⟨hBb _ (hr.mem.gd g hg).1, (hr.mem.gd g hg).2⟩) (fun b hb => hb.1) (fun j ab hj env' m' => ?_) (fun i j a b hi hj hne ha hb => ?_)
        · match j, hj with
          | 0, hj => cases hj; exact ⟨vp, bp1, hints _ _, fun h => h.2 rfl⟩
          | j + 1, hj => cases hj
        · exfalso
          match i, hi, j, hj with
          | 0, _, 0, _ => exact hne rfl
          | 0, _, j + 1, hj => cases hj
          | i + 1, hi, _, _ => cases hi
      have hrel : Rel (cRRL R) (but w (env p)) w (envX gdA [env p]) (st_rr a b ((0 : Nat) : Int) (ac.tmps.getD 6 undef)) (mem_rr t (nth es)) ac w := by
        refine ⟨hr.size.trans (hsz.trans slots_sz.symm), fun t => slots_R fun x hx ht => ?_, hr.defers, hmr⟩
        subst ht
        simp only [List.mem_cons, List.not_mem_nil, or_false] at hx
        rcases hx with rfl | rfl | rfl | rfl | rfl
        · exact i64_R h1 (hr.tmp 1)
        · exact i64_R h2 (hr.tmp 2)
        · have h := hr.tmp 3; rw [h3] at h; exact ⟨(by decide : 2 < 3), h.2⟩
        · exact known_raw k6 (hr.tmp 6)
        · have h := hr.tmp 7; rw [h7] at h; exact h
      refine wp_loop_in (rr_rounds hC a b (ac.tmps.getD 6 undef) t 24 0 (nth es) rfl (by omega) (envX gdA [env p]) _ ac w hrel (Ext.refl _ _) fun env' a' w' hR hE => ?_)
      obtain ⟨vs, c1, c2, c3⟩ := hR.mem.blk 2 (.cells t (si25 (tab 25 (refF R a b 24 0 (nth es))))) (by kernel_rfl)
      have he2 : env' 2 = env p := hE.2 2 (by decide : 2 < 3)
      rw [he2] at c1
      refine hk env a' w' ⟨hR.size.trans (slots_sz.trans slots_sz.symm), fun t => slots_R fun x hx ht => ?_, hR.defers, hr.mem.unfocus hp1 hR.mem.below c1 (all2_flat (by simp [si25, SV.flat]) c2)⟩ (Ext.refl _ _)
      subst ht
      simp only [List.mem_cons, List.not_mem_nil, or_false] at hx
      rcases hx with rfl | rfl
      · have h := hR.tmp 3
        rw [slots_rr3] at h
        have h0 := hr.tmp 3; rw [h3] at h0
        show (tm.get 3).R env mem.n _
        rw [h3, h.2]
        exact ⟨h0.1, by simp only [SV.conc, he2]⟩
      · have h := hR.tmp 6
        rw [slots_rr6] at h
        show (tm.get 6).R env mem.n _; rw [h.2]; exact hr.tmp 6
    · cases hF
  · cases hF

end Go.Proofs.YtpnikmkijedmbaaDoor
