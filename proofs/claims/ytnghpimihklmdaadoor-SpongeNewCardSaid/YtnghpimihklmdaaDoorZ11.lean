/- Layer 13: the round, and the round back. -/
import Derived.Test.YtnghpimihklmdaaDoorZ10
namespace Go.Proofs.YtnghpimihklmdaaDoor
open Go Go.Ax
set_option linter.unusedSectionVars false
variable [JW]

def L5 (es : List Int) : AV := .agg (es.map (.si .u64))

/-! ## Rows -/

def chi5 (es : List Int) : List Int := tab 5 fun x => xo (nth es x) (binI .andNot .u64 (nth es ((x + 2) % 5)) (nth es ((x + 1) % 5)))
def chi5R (es : List Int) : List Int := tab 5 fun x => xo (nth es x) (binI .and .u64 (unI .xor .u64 (nth es ((x + 1) % 5))) (nth es ((x + 2) % 5)))
theorem not_and (b c : Int) : binI .and .u64 (unI .xor .u64 b) c = binI .andNot .u64 c b := by
  rw [not_nb, and_nb, andNot_nb, bv_nb, BitVec.and_comm]
theorem chi5R_eq (es : List Int) : chi5R es = chi5 es := tab_congr fun i _ => by rw [not_and]
theorem fn_chi5 : FnOk Tryd.prog 141 Tryd.f141 := ⟨Tryd.func141, by kernel_rfl⟩
theorem run_chi5 (f : Nat → Int) : callA (cfg [] []) false 3000 Tryd.f141 [L5 (tab 5 f)] (memG gdA) = .done (L5 (chi5R (tab 5 f))) Mem.empty := by kernel_rfl
def p_chi5 := (141, gsum [.l .u64 5] (fun _ => []) fun l => .p (.l .u64 (chi5 (row0 l))))
theorem ps_chi5 : PSOk (cfg [] []) p_chi5.1 p_chi5.2 :=
  up (psok_e (C := cfg [] []) (cok (by simp) (by simp)) rfl rfl fn_chi5 rfl 3000 (fun fs => [L5 (tab 5 (fs 0))]) (fun _ => rfl) fun fs _ _ =>
    ⟨_, run_chi5 (fs 0), sat_same (by rw [chi5R_eq]; rfl)⟩)

/-! ## The round -/

def roundG (es : List Int) (r : Int) : List Int := iotaL (chiL (piL (rhoL (thetaG (xo 0) es)))) r
theorem fn_Round : FnOk Tryd.prog 122 Tryd.f122 := ⟨Tryd.func122, by kernel_rfl⟩
theorem run_Round (f : Nat → Int) (r : Int) : callA (cfg [] [p_Turn, p_Offset, p_chi5, p_Constant]) false 3000 Tryd.f122 [L25 (tab 25 f), .one (.si .i64 r)] (memG gdA) = .done (L25 (roundG (tab 25 f) r)) Mem.empty := by kernel_rfl
def p_Round := (122, gsum [.l .u64 25, .w .i64] (fun _ => []) T_Round)
theorem ps_Round : PSOk (cfg [] []) p_Round.1 p_Round.2 :=
  up (psok_e (C := cfg [] [p_Turn, p_Offset, p_chi5, p_Constant]) (cok (by simp) (by simp [ps_Turn, ps_Offset, ps_chi5, ps_Constant])) rfl rfl fn_Round rfl 3000 (fun fs => [L25 (tab 25 (fs 0)), .one (.si .i64 (fs 1 0))]) (fun _ => rfl) fun fs h _ =>
    ⟨_, run_Round (fs 0) (fs 1 0), sat_same (by unfold roundG; rw [show thetaG (xo 0) (tab 25 (fs 0)) = thetaL (tab 25 (fs 0)) from thetaG_0 h.1.2]; rfl)⟩)

end Go.Proofs.YtnghpimihklmdaaDoor

/- Layer 13: rounds, one behind the other. -/
namespace Go.Proofs.YtnghpimihklmdaaDoor
open Go Go.Ax
set_option linter.unusedSectionVars false
variable [JW]

/-- So many rounds from one on. -/
def seqL (R : List Int → Int → List Int) : Nat → Nat → List Int → List Int
  | 0, _, es => es
  | d + 1, s, es => seqL R d (s + 1) (R es (s : Int))
def clampI (z : Int) : Int := mmI true (mmI false z 0) 24
def roundsL (R : List Int → Int → List Int) (es : List Int) (a b : Int) : List Int := seqL R (clampI b - clampI a).toNat (clampI a).toNat es
def T_RoundsV (R : List Int → Int → List Int) : List (List Int) → GR := fun l => .p (.l .u64 (tab 25 (nth (roundsL R (row0 l) (one l 1) (one l 2)))))

/-! ## The program's: over a 'goto' -/

def pRoundV (R : List Int → Int → Nat → Int) := (122, gsum [.l .u64 25, .w .i64] (fun _ => []) fun l => .p (.l .u64 (tab 25 (R (row0 l) (one l 1)))))
def treeV (R : List Int → Int → Nat → Int) (e : Int) : Nat → Nat → List Int → Out
  | 0, _, _ => .bad 0
  | d + 1, s, es => .br (decide ((s : Int) < e)) (treeV R e d (s + 1) (tab 25 (R es s))) (.done (L25 es) Mem.empty)
def splitV (e : Int) (go : Nat → Out) : List Nat → Out
  | [] => .bad 30
  | v :: vs => .br (decide (e = (v : Int))) (go v) (splitV e go vs)
theorem fn_Rounds : FnOk Tryd.prog 109 Tryd.f109 := ⟨Tryd.func109, by kernel_rfl⟩
noncomputable def cRounds (R : List Int → Int → Nat → Int) : Cfg := cfgS [] [pRoundV R] [(2, (7, (List.range 25).map fun (n : Nat) => (n : Int)))]
theorem run_Rounds (R : List Int → Int → Nat → Int) (f : Nat → Int) (a b : Int) : callA (cRounds R) false 33 Tryd.f109 [L25 (tab 25 f), .one (.si .i64 a), .one (.si .i64 b)] (memG gdA) =
    splitV (clampI a) (fun v => treeV R (clampI b) 25 v (tab 25 f)) (List.range 25) := by kernel_rfl
end Go.Proofs.YtnghpimihklmdaaDoor

/- Layer 13: the document's rounds, by their loop's contract. -/
namespace Go.Proofs.YtnghpimihklmdaaDoor
open Go Go.Ax
set_option linter.unusedSectionVars false
variable [JW]

def pR13RoundV (R : List Int → Int → Nat → Int) := (110, gsum [.l .u64 25, .w .i64] (fun _ => []) fun l => .p (.l .u64 (tab 25 (R (row0 l) (one l 1)))))
noncomputable def bd_rr : Code := loopAt Tryd.f84 0
noncomputable def cRRL (R : List Int → Int → Nat → Int) : Cfg := cfg [] [pR13RoundV R]
def si25 (l : List Int) : List SV := l.map (.si .u64)
def st_rr (a b i : Int) (v6 : Value) : TM := slots 24 [(1, .one (.si .i64 a)), (2, .one (.si .i64 b)), (3, .one (.ptr 2 0)), (6, .one (.raw v6)), (7, .one (.si .i64 i))]
def mem_rr (t : TypeId) (f : Nat → Int) : Mem := memX gdA [.cells t (si25 (tab 25 f))]
theorem run_bd_rr (R : List Int → Int → Nat → Int) (f : Nat → Int) (a b i : Int) (v6 : Value) (t : TypeId) (G : AE → Nat → List DE → AV → AV → AV → AV → AV → Mem → Out) :
    exec (cRRL R) 100 (.run bd_rr) (st_rr a b i v6) (mem_rr t f) (fun e tm m => G e tm.sz tm.df (tm.get 1) (tm.get 2) (tm.get 3) (tm.get 6) (tm.get 7) m) =
    .br (cmpI .lss i 24) (.br (cmpI .geq i a)
        (.br (cmpI .lss i b)
          (G .normal 24 [] (.one (.si .i64 a)) (.one (.si .i64 b)) (.one (.ptr 2 0)) (.one (.raw v6)) (.one (.si .i64 (binI .add .i64 i 1))) (mem_rr t (R (tab 25 f) i)))
          (G .normal 24 [] (.one (.si .i64 a)) (.one (.si .i64 b)) (.one (.ptr 2 0)) (.one (.raw v6)) (.one (.si .i64 (binI .add .i64 i 1))) (mem_rr t f)))
        (G .normal 24 [] (.one (.si .i64 a)) (.one (.si .i64 b)) (.one (.ptr 2 0)) (.one (.raw v6)) (.one (.si .i64 (binI .add .i64 i 1))) (mem_rr t f)))
      (G (.exit 0) 24 [] (.one (.si .i64 a)) (.one (.si .i64 b)) (.one (.ptr 2 0)) (.one (.raw v6)) (.one (.si .i64 i)) (mem_rr t f)) := by kernel_rfl

def stepF (R : List Int → Int → Nat → Int) (a b i : Int) (f : Nat → Int) : Nat → Int := if a ≤ i ∧ i < b then R (tab 25 f) i else f
def P_rr (R : List Int → Int → Nat → Int) (f : Nat → Int) (a b i : Int) (v6 : Value) (t : TypeId) (e : AE) (sz : Nat) (df : List DE) (w1 w2 w3 w6 w7 : AV) (m : Mem) : Prop :=
  sz = 24 ∧ df = [] ∧ w3 = .one (.ptr 2 0) ∧ w6 = .one (.raw v6) ∧ match e with
    | .normal => i < 24 ∧ w1 = .one (.si .i64 a) ∧ w2 = .one (.si .i64 b) ∧ w7 = .one (.si .i64 (binI .add .i64 i 1)) ∧ m = mem_rr t (stepF R a b i f)
    | .exit 0 => ¬ i < 24 ∧ m = mem_rr t f
    | _ => False
theorem sat_rr (R : List Int → Int → Nat → Int) (f : Nat → Int) (a b i : Int) (v6 : Value) (t : TypeId) :
    (exec (cRRL R) 100 (.run bd_rr) (st_rr a b i v6) (mem_rr t f) (endAt fun e tm m => P_rr R f a b i v6 t e tm.sz tm.df (tm.get 1) (tm.get 2) (tm.get 3) (tm.get 6) (tm.get 7) m)).sat (fun _ _ => True) := by
  have := run_bd_rr R f a b i v6 t (fun e sz df w1 w2 w3 w6 w7 m => .need (P_rr R f a b i v6 t e sz df w1 w2 w3 w6 w7 m) (.done .any Mem.empty))
  unfold endAt
  rw [this]
  refine ⟨fun h => ⟨fun h1 => ⟨fun h2 => ⟨⟨rfl, rfl, rfl, rfl, ?_, rfl, rfl, rfl, ?_⟩, trivial⟩, fun h2 => ⟨⟨rfl, rfl, rfl, rfl, ?_, rfl, rfl, rfl, ?_⟩, trivial⟩⟩, fun h1 => ⟨⟨rfl, rfl, rfl, rfl, ?_, rfl, rfl, rfl, ?_⟩, trivial⟩⟩, fun h => ⟨⟨rfl, rfl, rfl, rfl, ?_, rfl⟩, trivial⟩⟩
  · exact of_decide_eq_true h
  · unfold stepF
    rw [if_pos ⟨of_decide_eq_true h1, of_decide_eq_true h2⟩]
  · exact of_decide_eq_true h
  · unfold stepF
    rw [if_neg fun q => of_decide_eq_false h2 q.2]
  · exact of_decide_eq_true h
  · unfold stepF
    rw [if_neg fun q => of_decide_eq_false h1 q.1]
  · exact of_decide_eq_false h

/-- What the rounds from one on come to. -/
def refF (R : List Int → Int → Nat → Int) (a b : Int) : Nat → Nat → (Nat → Int) → (Nat → Int)
  | 0, _, f => f
  | d + 1, i, f => refF R a b d (i + 1) (stepF R a b (i : Int) f)

theorem rr_rounds {R : List Int → Int → Nat → Int} (hC : COk (cRRL R)) {B : Nat → Prop} {w0 : World} {Q : Exit → Act → World → Prop} (a b : Int) (v6 : Value) (t : TypeId) : ∀ (d i : Nat) (f : Nat → Int), 24 - i = d → i ≤ 24 → ∀ (env0 env : Nat → Nat) (ac : Act) (w : World),
    Rel (cRRL R) B w0 env (st_rr a b i v6) (mem_rr t f) ac w → Ext env0 3 env 3 →
    (∀ env' a' w', Rel (cRRL R) B w0 env' (slots 24 [(3, .one (.ptr 2 0)), (6, .one (.raw v6))]) (mem_rr t (refF R a b d i f)) a' w' → Ext env0 3 env' 3 → Q (.exit 0) a' w') → InLoopJ JW.J bd_rr Q ac w := by
  intro d
  induction d with
  | zero =>
    intro i f hd hi env0 env ac w hr hx hk
    refine InLoopJ.round (body_step (C := cRRL R) hC (n := 100) (sat_rr R f a b i v6 t) hr ?_)
    intro e tm' mem' env' a' w' hP hR hE
    obtain ⟨hs, hd0, h3, h6, hP⟩ := hP
    cases e with
    | normal => have := hP.1; omega
    | exit id =>
      match id, hP with
      | 0, hP =>
        obtain ⟨_, rfl⟩ := hP
        refine hk env' a' w' (hR.slots hs hd0 fun p hp env m v hv => ?_) (hx.trans hE)
        simp only [List.mem_cons, List.not_mem_nil, or_false] at hp
        rcases hp with rfl | rfl
        · rw [h3] at hv; exact hv
        · rw [h6] at hv; exact hv
    | goto l => exact hP.elim
    | ret => exact hP.elim
    | panic v => exact hP.elim
  | succ d ih =>
    intro i f hd hi env0 env ac w hr hx hk
    refine InLoopJ.round (body_step (C := cRRL R) hC (n := 100) (sat_rr R f a b i v6 t) hr ?_)
    intro e tm' mem' env' a' w' hP hR hE
    obtain ⟨hs, hd0, h3, h6, hP⟩ := hP
    cases e with
    | normal =>
      obtain ⟨hlt, h1, h2, h7, rfl⟩ := hP
      refine ih (i + 1) (stepF R a b i f) (by omega) (by omega) env0 env' a' w' (hR.slots hs hd0 fun p hp env m v hv => ?_) (hx.trans hE) hk
      simp only [List.mem_cons, List.not_mem_nil, or_false] at hp
      have hi' : binI .add .i64 (i : Int) 1 = ((i + 1 : Nat) : Int) := by rw [add64 (by omega) (by omega)]; omega
      rcases hp with rfl | rfl | rfl | rfl | rfl
      · rw [h1] at hv; exact hv
      · rw [h2] at hv; exact hv
      · rw [h3] at hv; exact hv
      · rw [h6] at hv; exact hv
      · rw [h7, hi'] at hv; exact hv
    | exit id =>
      match id, hP with
      | 0, hP => have := hP.1; omega
    | goto l => exact hP.elim
    | ret => exact hP.elim
    | panic v => exact hP.elim

/-! ## The contract -/

def i64r? : AV → Option Int
  | .one (.li .i64 n) => some n
  | .one (.si .i64 n) => some n
  | _ => none
theorem i64r_R {x : AV} {n : Int} (h : i64r? x = some n) {env : Nat → Nat} {m : Nat} {v : Value} (hv : x.R env m v) {env' : Nat → Nat} {m' : Nat} : (AV.one (.si .i64 n)).R env' m' v := by
  unfold i64r? at h
  split at h
  · cases h; exact hv
  · cases h; exact hv
  · cases h
def cellsN (k : IntKind) (n : Nat) (mem : Mem) (b : Nat) : Option (TypeId × List Int) := match mem.get b with
  | some (.cells t l) => match intsOf k l with
    | some es => match Nat.beq es.length n with | true => some (t, es) | false => none
    | none => none
  | _ => none
theorem cellsN_spec {k : IntKind} {n : Nat} {mem : Mem} {b : Nat} {t : TypeId} {es : List Int} (h : cellsN k n mem b = some (t, es)) : ∃ l, mem.get b = some (.cells t l) ∧ intsOf k l = some es ∧ es.length = n := by
  unfold cellsN at h
  split at h
  · rename_i t' l hl
    split at h
    · rename_i es' he
      split at h
      · rename_i hn; cases h; exact ⟨l, hl, he, Nat.eq_of_beq_eq_true hn⟩
      · cases h
    · cases h
  · cases h

def F_rr (R : List Int → Int → Nat → Int) : TM → Mem → Option (List Cnd × AE × TM × Mem) := fun tm mem =>
  match tm.get 3, i64r? (tm.get 1), i64r? (tm.get 2), tm.get 7 with
  | .one (.ptr p o), some a, some b, .one (.li .i64 i) => match cellsN .u64 25 mem p, Nat.beq tm.sz 24 && Nat.beq o 0 && decide (i = 0) && known (tm.get 6) && tm.df.isEmpty with
    | some (t, es), true => some ([], .exit 0, slots 24 [(3, tm.get 3), (6, tm.get 6)], mem.set p (.cells t (si25 (tab 25 (refF R a b 24 0 (nth es))))))
    | _, _ => none
  | _, _, _, _ => none

theorem slots_rr3 (x y : AV) : (slots 24 [(3, x), (6, y)]).get 3 = x := by kernel_rfl
theorem slots_rr6 (x y : AV) : (slots 24 [(3, x), (6, y)]).get 6 = y := by kernel_rfl
theorem lp_rr {R : List Int → Int → Nat → Int} (hC : COk (cRRL R)) : LoopOk (cfg [] []) bd_rr (F_rr R) := by
  intro tm mem ps e tm' mem' hF _ B w0 env ac w Q0 hr hk
  unfold F_rr at hF
  split at hF
  · rename_i p o a b i h3 h1 h2 h7
    split at hF
    · rename_i t es hp hc
      simp only [Bool.and_eq_true, decide_eq_true_eq, Nat.beq_eq] at hc
      obtain ⟨⟨⟨⟨hsz, rfl⟩, rfl⟩, k6⟩, hdf⟩ := hc
      have hdf : tm.df = [] := List.isEmpty_iff.1 hdf
      have hdd : ac.defers = [] := by
        have h := hr.defers
        rw [hdf] at h
        cases hq : ac.defers with
        | nil => rfl
        | cons x l => rw [hq] at h; exact h.elim
      cases hF
      obtain ⟨lp, hp1, hp2, hp3⟩ := cellsN_spec hp
      obtain ⟨vp, bp1, bp2, bp3⟩ := hr.mem.blk p _ hp1
      have hBb : ∀ k, B k → but w (env p) k := fun k hk => ⟨hr.mem.base k hk, fun e => bp3 (e ▸ hk)⟩
      have hints : ∀ (env' : Nat → Nat) (m' : Nat), All2 (SV.R env' m') (si25 (tab 25 (nth es))) vp := fun env' m' => by
        obtain ⟨q1, q2⟩ := intsOf_R hp2 bp2
        rw [q1, show tab 25 (nth es) = es from tab_self hp3]
        exact All2.both _ _ es fun e he => ⟨q2 e he, rfl⟩
      have hmr : MR (cRRL R) (but w (env p)) w (envX gdA [env p]) (mem_rr t (nth es)) w := by
        refine MR.focus (C := cRRL R) rfl (fun g hg => ⟨hBb _ (hr.mem.gd g hg).1, (hr.mem.gd g hg).2⟩) (fun b hb => hb.1) (fun j ab hj env' m' => ?_) (fun i j a b hi hj hne ha hb => ?_)
        · match j, hj with
          | 0, hj => cases hj; exact ⟨vp, bp1, hints _ _, fun h => h.2 rfl⟩
          | j + 1, hj => cases hj
        · exfalso
          match i, hi, j, hj with
          | 0, _, 0, _ => exact hne rfl
          | 0, _, j + 1, hj => cases hj
          | i + 1, hi, _, _ => cases hi
      have hrel : Rel (cRRL R) (but w (env p)) w (envX gdA [env p]) (st_rr a b ((0 : Nat) : Int) (ac.tmps.getD 6 undef)) (mem_rr t (nth es)) ac w := by
        refine ⟨hr.size.trans (hsz.trans slots_sz.symm), fun t => slots_R fun x hx ht => ?_, by rw [hdd]; trivial, hmr⟩
        subst ht
        simp only [List.mem_cons, List.not_mem_nil, or_false] at hx
        rcases hx with rfl | rfl | rfl | rfl | rfl
        · exact i64r_R h1 (hr.tmp 1)
        · exact i64r_R h2 (hr.tmp 2)
        · have h := hr.tmp 3; rw [h3] at h; exact ⟨(by decide : 2 < 3), h.2⟩
        · exact known_raw k6 (hr.tmp 6)
        · have h := hr.tmp 7; rw [h7] at h; exact h
      refine wpJ_loop_in (rr_rounds hC a b (ac.tmps.getD 6 undef) t 24 0 (nth es) rfl (by omega) (envX gdA [env p]) _ ac w hrel (Ext.refl _ _) fun env' a' w' hR hE => ?_)
      obtain ⟨vs, c1, c2, c3⟩ := hR.mem.blk 2 (.cells t (si25 (tab 25 (refF R a b 24 0 (nth es))))) (by kernel_rfl)
      have he2 : env' 2 = env p := hE.2 2 (by decide : 2 < 3)
      rw [he2] at c1
      refine hk env a' w' ⟨hR.size.trans (slots_sz.trans slots_sz.symm), fun t => slots_R fun x hx ht => ?_, by
        have h := hR.defers
        cases hq : a'.defers with
        | nil => trivial
        | cons x l => rw [hq] at h; exact h.elim, hr.mem.unfocus hp1 hR.mem.below c1 (all2_flat (by simp [si25, SV.flat]) c2)⟩ (Ext.refl _ _)
      subst ht
      simp only [List.mem_cons, List.not_mem_nil, or_false] at hx
      rcases hx with rfl | rfl
      · have h := hR.tmp 3
        rw [slots_rr3] at h
        have h0 := hr.tmp 3; rw [h3] at h0
        show (tm.get 3).R env mem.n _
        rw [h3, h.2]
        exact ⟨h0.1, by simp only [SV.conc, he2]⟩
      · have h := hR.tmp 6
        rw [slots_rr6] at h
        show (tm.get 6).R env mem.n _; rw [h.2]; exact hr.tmp 6
    · cases hF
  · cases hF

end Go.Proofs.YtnghpimihklmdaaDoor

/- Layer 13: the rounds' summaries. -/
namespace Go.Proofs.YtnghpimihklmdaaDoor
open Go Go.Ax
set_option linter.unusedSectionVars false
variable [JW]

def Rn (es : List Int) (r : Int) (i : Nat) : Int := nth (roundL es r) i
theorem roundL_len (es : List Int) (r : Int) : (roundL es r).length = 25 := by simp [roundL, iotaL, tab]
theorem Rn_tab (es : List Int) (r : Int) : tab 25 (Rn es r) = roundL es r := tab_self (roundL_len es r)
theorem TRn : (fun l : List (List Int) => GR.p (.l .u64 (tab 25 (Rn (row0 l) (one l 1))))) = T_Round := by funext l; rw [Rn_tab]; rfl
theorem ps_RoundV : PSOk (cfg [] []) (pRoundV Rn).1 (pRoundV Rn).2 := by
  have : pRoundV Rn = p_Round := by unfold pRoundV p_Round; rw [TRn]
  rw [this]; exact ps_Round
theorem ps_R13RoundV : PSOk (cfg [] []) (pR13RoundV Rn).1 (pR13RoundV Rn).2 := by
  have : pR13RoundV Rn = p_R13Round := by unfold pR13RoundV p_R13Round; rw [TRn]
  rw [this]; exact ps_R13Round

/-! ## Rounds in a row -/

def RL (R : List Int → Int → Nat → Int) (es : List Int) (r : Int) : List Int := tab 25 (R es r)
theorem seqL_add (R : List Int → Int → List Int) : ∀ (m n s : Nat) (es : List Int), seqL R (m + n) s es = seqL R n (s + m) (seqL R m s es)
  | 0, n, s, es => by simp [seqL]
  | m + 1, n, s, es => by
    rw [show m + 1 + n = (m + n) + 1 by omega]
    simp only [seqL]
    rw [seqL_add R m n (s + 1), show s + 1 + m = s + (m + 1) by omega]
theorem clamp_spec (z : Int) : 0 ≤ clampI z ∧ clampI z ≤ 24 ∧ (z ≤ 0 → clampI z = 0) ∧ (24 ≤ z → clampI z = 24) ∧ (0 ≤ z → z ≤ 24 → clampI z = z) := by
  unfold clampI mmI iteI
  by_cases h1 : 0 > z
  · simp [h1]; omega
  · by_cases h2 : 24 < z
    · simp [h1, h2]; omega
    · simp [h1, h2]; omega
theorem seqL_len {R : List Int → Int → Nat → Int} : ∀ (d s : Nat) (es : List Int), es.length = 25 → (seqL (RL R) d s es).length = 25
  | 0, _, _, h => h
  | d + 1, s, es, _ => by simp only [seqL]; exact seqL_len d (s + 1) _ (by simp [RL, tab])
theorem seqL_tab {R : List Int → Int → Nat → Int} {d s : Nat} {es : List Int} (h : es.length = 25) : tab 25 (nth (seqL (RL R) d s es)) = seqL (RL R) d s es := tab_self (seqL_len d s es h)

theorem treeV_sat {R : List Int → Int → Nat → Int} {e : Int} {K : AV → Mem → Prop} : ∀ (d s : Nat) (es : List Int), 0 < d → e < s + d → K (L25 (seqL (RL R) (e - s).toNat s es)) Mem.empty → (treeV R e d s es).sat K
  | 0, _, _, h, _, _ => absurd h (by omega)
  | d + 1, s, es, _, h, hk => by
    refine ⟨fun hc => ?_, fun hc => ?_⟩
    · have hc := of_decide_eq_true hc
      refine treeV_sat d (s + 1) _ (by omega) (by omega) ?_
      have e1 : (e - (s : Int)).toNat = (e - ((s + 1 : Nat) : Int)).toNat + 1 := by omega
      rw [e1] at hk
      exact hk
    · have hc := of_decide_eq_false hc
      have e1 : (e - (s : Int)).toNat = 0 := by omega
      rw [e1] at hk
      exact hk
theorem splitV_sat {e : Int} {go : Nat → Out} {K : AV → Mem → Prop} : ∀ {vs : List Nat}, (∀ v ∈ vs, e = (v : Int) → (go v).sat K) → (∃ v ∈ vs, e = (v : Int)) → (splitV e go vs).sat K
  | [], _, ⟨_, h, _⟩ => by cases h
  | v :: vs, h, ⟨u, hu, hru⟩ => ⟨fun hc => h v (List.mem_cons_self ..) (of_decide_eq_true hc), fun hc => splitV_sat (fun x hx => h x (List.mem_cons_of_mem _ hx)) (by
      rcases List.mem_cons.1 hu with rfl | hu
      · exact absurd hru (of_decide_eq_false hc)
      · exact ⟨u, hu, hru⟩)⟩

def roundsN (es : List Int) (a b : Int) : List Int := tab 25 (nth (roundsL (RL Rn) es a b))
def T_Rounds : List (List Int) → GR := fun l => .p (.l .u64 (roundsN (row0 l) (one l 1) (one l 2)))
theorem roundsN_eq {es : List Int} (h : es.length = 25) (a b : Int) : roundsN es a b = roundsL (RL Rn) es a b := seqL_tab h

def p_Rounds := (109, gsum [.l .u64 25, .w .i64, .w .i64] (fun _ => []) T_Rounds)
theorem ps_Rounds : PSOk (cfg [] []) p_Rounds.1 p_Rounds.2 :=
  (psok_e (C := cRounds Rn) (cokS (by simp) (fun p hp => by simp at hp; subst hp; exact ps_RoundV)) rfl rfl fn_Rounds rfl 33 (fun fs => [L25 (tab 25 (fs 0)), .one (.si .i64 (fs 1 0)), .one (.si .i64 (fs 2 0))]) (fun _ => rfl) fun fs _ _ => by
    refine ⟨_, run_Rounds Rn (fs 0) (fs 1 0) (fs 2 0), splitV_sat (fun v hv hr => ?_) ⟨(clampI (fs 1 0)).toNat, ?_⟩⟩
    · have hv := List.mem_range.1 hv
      have hb := clamp_spec (fs 2 0)
      refine treeV_sat 25 v _ (by omega) (by omega) (sat_same ?_)
      show L25 _ = L25 (roundsN (tab 25 (fs 0)) (fs 1 0) (fs 2 0))
      rw [roundsN_eq (by simp [tab])]
      unfold roundsL
      rw [hr, Int.toNat_natCast]
    · have ha := clamp_spec (fs 1 0)
      exact ⟨List.mem_range.2 (by omega), by omega⟩).cast rfl rfl rfl

/-! ## The document's -/

def refL (R : List Int → Int → Nat → Int) (a b : Int) : Nat → Nat → List Int → List Int
  | 0, _, es => es
  | d + 1, i, es => refL R a b d (i + 1) (if a ≤ (i : Int) ∧ (i : Int) < b then RL R es i else es)
theorem refF_L {R : List Int → Int → Nat → Int} {a b : Int} : ∀ (d i : Nat) (f : Nat → Int), tab 25 (refF R a b d i f) = refL R a b d i (tab 25 f)
  | 0, _, _ => rfl
  | d + 1, i, f => by
    simp only [refF, refL]
    rw [refF_L d (i + 1)]
    congr 1
    unfold stepF
    split <;> rfl
theorem refL_seq {R : List Int → Int → Nat → Int} {a b : Int} : ∀ (d i : Nat) (es : List Int), i + d = 24 → refL R a b d i es = seqL (RL R) ((clampI b).toNat - max i (clampI a).toNat) (max i (clampI a).toNat) es := by
  have ha := clamp_spec a
  have hb := clamp_spec b
  intro d
  induction d with
  | zero =>
    intro i es h
    rw [show (clampI b).toNat - max i (clampI a).toNat = 0 by omega]
    rfl
  | succ d ih =>
    intro i es h
    simp only [refL]
    rw [ih (i + 1) _ (by omega)]
    by_cases hc : a ≤ (i : Int) ∧ (i : Int) < b
    · rw [if_pos hc]
      have h1 : (clampI a).toNat ≤ i := by
        by_cases h0 : a ≤ 0
        · have := ha.2.2.1 h0; omega
        · have := ha.2.2.2.2 (by omega) (by omega); omega
      have h2 : i < (clampI b).toNat := by
        by_cases h0 : 24 ≤ b
        · have := hb.2.2.2.1 h0; omega
        · have := hb.2.2.2.2 (by omega) (by omega); omega
      rw [show max (i + 1) (clampI a).toNat = i + 1 by omega, show max i (clampI a).toNat = i by omega, show (clampI b).toNat - i = ((clampI b).toNat - (i + 1)) + 1 by omega]
      rfl
    · rw [if_neg hc]
      by_cases h1 : a ≤ (i : Int)
      · have h3 : ¬ (i : Int) < b := fun h => hc ⟨h1, h⟩
        have h2 : (clampI b).toNat ≤ i := by
          by_cases h0 : b ≤ 0
          · have := hb.2.2.1 h0; omega
          · have := hb.2.2.2.2 (by omega) (by omega); omega
        rw [show (clampI b).toNat - max (i + 1) (clampI a).toNat = 0 by omega, show (clampI b).toNat - max i (clampI a).toNat = 0 by omega]
        rfl
      · have h2 : i < (clampI a).toNat := by
          by_cases h0 : 24 ≤ a
          · have := ha.2.2.2.1 h0; omega
          · have := ha.2.2.2.2 (by omega) (by omega); omega
        rw [show max (i + 1) (clampI a).toNat = max i (clampI a).toNat by omega]

theorem fn_RRounds : FnOk Tryd.prog 84 Tryd.f84 := ⟨Tryd.func84, by kernel_rfl⟩
theorem run_RRounds (R : List Int → Int → Nat → Int) (f : Nat → Int) (a b : Int) : callA (cfgLp [] [] [] [(2, bd_rr, F_rr R)]) false 100 Tryd.f84 [L25 (tab 25 f), .one (.si .i64 a), .one (.si .i64 b)] (memG gdA) =
    .need (bd_rr = bd_rr) (.done (L25 (tab 25 (refF R a b 24 0 (nth (tab 25 f))))) Mem.empty) := by kernel_rfl
def p_RRounds := (84, gsum [.l .u64 25, .w .i64, .w .i64] (fun _ => []) T_Rounds)
theorem cok_RRL : COk (cRRL Rn) := cok (by simp) (fun p hp => by simp at hp; subst hp; exact ps_R13RoundV)
theorem ps_RRounds : PSOk (cfg [] []) p_RRounds.1 p_RRounds.2 :=
  (psok_e (C := cfgLp [] [] [] [(2, bd_rr, F_rr Rn)]) (cokLp (by simp) (by simp) (fun p hp => by simp at hp; subst hp; exact lp_rr cok_RRL)) rfl rfl fn_RRounds rfl 100 (fun fs => [L25 (tab 25 (fs 0)), .one (.si .i64 (fs 1 0)), .one (.si .i64 (fs 2 0))]) (fun _ => rfl) fun fs _ _ =>
    ⟨_, run_RRounds Rn (fs 0) (fs 1 0) (fs 2 0), rfl, sat_same (by
      show L25 _ = L25 (roundsN (tab 25 (fs 0)) (fs 1 0) (fs 2 0))
      rw [roundsN_eq (by simp [tab]), refF_L, show tab 25 (nth (tab 25 (fs 0))) = tab 25 (fs 0) from tab_self (by simp [tab]), refL_seq 24 0 _ rfl]
      have ha := clamp_spec (fs 1 0)
      have hb := clamp_spec (fs 2 0)
      rw [show max 0 (clampI (fs 1 0)).toNat = (clampI (fs 1 0)).toNat by omega]
      unfold roundsL
      rw [show (clampI (fs 2 0) - clampI (fs 1 0)).toNat = (clampI (fs 2 0)).toNat - (clampI (fs 1 0)).toNat by omega])⟩).cast rfl rfl rfl

/-! ## All rounds -/

theorem fn_F : FnOk Tryd.prog 83 Tryd.f83 := ⟨Tryd.func83, by kernel_rfl⟩
def T_F : List (List Int) → GR := fun l => .p (.l .u64 (roundsN (row0 l) 0 24))
def p_F := (83, gsum [.l .u64 25] (fun _ => []) T_F)
theorem run_F (f : Nat → Int) : callA (cfg [] [p_Rounds]) false 100 Tryd.f83 [L25 (tab 25 f)] (memG gdA) = .done (L25 (roundsN (tab 25 f) 0 24)) Mem.empty := by kernel_rfl
theorem ps_F : PSOk (cfg [] []) p_F.1 p_F.2 :=
  up (psok_e (C := cfg [] [p_Rounds]) (cok (by simp) (by simp [ps_Rounds])) rfl rfl fn_F rfl 100 (fun fs => [L25 (tab 25 (fs 0))]) (fun _ => rfl) fun fs _ _ => ⟨_, run_F (fs 0), sat_same rfl⟩)
theorem fn_RF : FnOk Tryd.prog 53 Tryd.f53 := ⟨Tryd.func53, by kernel_rfl⟩
def p_RF := (53, gsum [.l .u64 25] (fun _ => []) T_F)
theorem run_RF (f : Nat → Int) : callA (cfg [] [p_RRounds]) false 100 Tryd.f53 [L25 (tab 25 f)] (memG gdA) = .done (L25 (roundsN (tab 25 f) 0 24)) Mem.empty := by kernel_rfl
theorem ps_RF : PSOk (cfg [] []) p_RF.1 p_RF.2 :=
  up (psok_e (C := cfg [] [p_RRounds]) (cok (by simp) (by simp [ps_RRounds])) rfl rfl fn_RF rfl 100 (fun fs => [L25 (tab 25 (fs 0))]) (fun _ => rfl) fun fs _ _ => ⟨_, run_RF (fs 0), sat_same rfl⟩)

end Go.Proofs.YtnghpimihklmdaaDoor
