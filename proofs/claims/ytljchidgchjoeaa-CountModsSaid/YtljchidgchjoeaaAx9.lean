/- The abstract executor is sound: what it says of a code's run holds of the code. -/
import Derived.Test.YtljchidgchjoeaaAx8
namespace Go.Ax
open Go Go.RowKit

def FnOk (P : Program) (g : Nat) (fn : Func) : Prop := P.funcs[g]? = some fn ∧ (fn.name == "runtime.NumGoroutine") = false

/-- A summary that holds: whatever the arguments are, where its conditions hold the call returns what it says, and leaves all that was there. -/
def PSOk (C : Cfg) (g : Nat) (F : List AV → Mem → Option (List Prop × AV)) : Prop :=
  (∃ fn, FnOk C.P g fn ∧ fn.body.isSome = true) ∧ ∀ args mem r conds, F args mem = some (conds, r) → allP conds → ∀ B w0 w env vals, MR C B w0 env mem w → All2 (AV.R env mem.n) args vals →
    Calls C.P g vals.toArray w fun e w' => (∃ v, e = .returned v ∧ r.R env mem.n v) ∧ Below w.heap.size w w'

/-- A loop's contract: from any state of the kind it comes to what is told. -/
def LoopOk (C : Cfg) (bd : Code) (F : TM → Mem → Option (List Prop × AE × TM × Mem)) : Prop :=
  ∀ tm mem ps e tm' mem', F tm mem = some (ps, e, tm', mem') → allP ps → ∀ (B : Nat → Prop) (w0 : World) (env : Nat → Nat) (a : Act) (w : World) (Q : Exit → Act → World → Prop), Rel C B w0 env tm mem a w →
    (∀ env' a' w', Rel C B w0 env' tm' mem' a' w' → Ext env mem.n env' mem'.n → Q e.conc a' w') → (Code.loop bd).wp C.P Q a w

structure COk (C : Cfg) : Prop where
  mixed : C.P.follows .mixedOrders = true
  fns : ∀ p ∈ C.fns, FnOk C.P p.1 p.2
  ps : ∀ p ∈ C.ps, PSOk C p.1 p.2
  lps : ∀ p ∈ C.lp, LoopOk C p.2.1 p.2.2
  exs : ∀ p ∈ C.ex, ExOk C.P p.1 p.2

theorem needs_sat {K : AV → Mem → Prop} {ps : List Prop} {o : Out} (h : (needs ps o).sat K) : allP ps ∧ o.sat K := by
  induction ps with
  | nil => exact ⟨trivial, h⟩
  | cons p ps ih => exact ⟨⟨h.1, (ih h.2).1⟩, (ih h.2).2⟩

theorem run_callFunc {P : Program} {g : Nat} {fn : Func} {args : Array Value} {w : World} (h : FnOk P g fn) (hb : fn.body.isSome = true) : (callFunc g args).run P w = .ok (.enter g args) w := by
  have hn : fn.body.isNone = false := by cases hq : fn.body <;> simp [hq] at hb ⊢
  unfold callFunc
  simp only [Sem.run_bind, run_program, Result.andThen_ok, h.1, h.2, hn, Bool.false_eq_true, if_false, Sem.run_pure]

section
variable {C : Cfg} {B : Nat → Prop} {w0 w : World} {env : Nat → Nat} {mem : Mem} {K : AV → Mem → Prop}

/-- A slot's truth value made a literal. -/
theorem lit_R {tm : TM} {a : Act} {t : Nat} {x : Bool} (ht : ∀ t, (tm.get t).R env mem.n (a.tmps.getD t undef)) (hv : a.tmps.getD t undef = .bool x) : ∀ u, ((tm.set t (.one (.lb x))).get u).R env mem.n (a.tmps.getD u undef) := by
  intro u
  unfold TM.set
  split
  · simp only [TM.get]
    by_cases h : t = u
    · subst h
      cases hg : (tm.t.set t (.one (.lb x))).get t with
      | none => trivial
      | some y => rw [Tr.get_set_eq _ _ _ _ hg]; exact ⟨trivial, hv⟩
    · rw [Tr.get_set_ne _ _ _ _ h]; exact ht u
  · exact ht u

theorem set_sz (tm : TM) (t : Nat) (v : AV) : (tm.set t v).sz = tm.sz := by unfold TM.set; split <;> rfl

/-- The ways of a guard: what holds of the frame stays. -/
theorem yielded_tuple {ops : Array Oper} {tmps : Array Value} {j : Nat} {t : Tmp} {vs : List Value} (hd : (ops[j]?).bind (·.dst) = some t) (hv : tmps.getD t undef = .tuple vs.toArray) : yielded ops tmps j = none := by
  unfold yielded
  rw [hd]
  simp only [Option.bind_some]
  cases hq : tmps[t]? with
  | none => rfl
  | some v =>
    have : tmps.getD t undef = v := by rw [Array.getD_eq_getD_getElem?, hq]; rfl
    rw [this] at hv
    subst hv
    rfl

theorem guarded_sat {ops : Array Oper} {o : Oper} {tm : TM} {yes no : TM → Out} {a : Act} (h : (guarded ops.toList o tm yes no).sat K) (ht : ∀ t, (tm.get t).R env mem.n (a.tmps.getD t undef)) :
    ∃ tm' : TM, tm'.sz = tm.sz ∧ (∀ env' m', (∀ t, (tm.get t).R env' m' (a.tmps.getD t undef)) → ∀ t, (tm'.get t).R env' m' (a.tmps.getD t undef)) ∧
      (Region.wanted o (yielded ops a.tmps) = true → (yes tm').sat K) ∧ (Region.wanted o (yielded ops a.tmps) = false → (no tm').sat K) := by
  unfold guarded at h
  unfold Region.wanted
  cases hg : o.guard with
  | none => rw [hg] at h; exact ⟨tm, rfl, fun _ _ h => h, fun _ => h, (fun e => by cases e)⟩
  | some p =>
    obtain ⟨j, want⟩ := p
    rw [hg] at h
    dsimp only at h ⊢
    have hy : ∀ t b, ((ops[j]?).bind (·.dst)) = some t → ((tm.get t).bool = .l b ∨ (tm.get t).bool = .s b) → yielded ops a.tmps j = some b ∧ a.tmps.getD t undef = .bool b := fun t b hd hb => by
      have hv := bool_val hb (ht t)
      have hlt : t < a.tmps.size := by
        rcases Nat.lt_or_ge t a.tmps.size with h | h
        · exact h
        · simp [Array.getElem?_eq_none h, undef] at hv
      have hv' : a.tmps[t]? = some (.bool b) := by
        rw [Array.getElem?_eq_getElem hlt]
        congr 1
        simpa [hlt] using hv
      refine ⟨?_, hv⟩
      unfold yielded
      rw [hd]
      simp [hv']
    rw [Array.getElem?_toList] at h
    cases hd : (ops[j]?).bind (·.dst) with
    | none => rw [hd] at h; exact h.elim
    | some t =>
      rw [hd] at h
      dsimp only at h
      split at h
      · rename_i x hx
        obtain ⟨hx, _⟩ := hy t x hd (.inl hx)
        rw [hx]
        refine ⟨tm, rfl, fun _ _ h => h, ?_⟩
        cases x <;> cases want <;> exact ⟨(fun e => by first | exact h | cases e), (fun e => by first | exact h | cases e)⟩
      · rename_i x hx
        obtain ⟨hx, hv⟩ := hy t x hd (.inr hx)
        rw [hx]
        cases want
        · cases x
          · exact ⟨tm.set t (.one (.lb false)), set_sz _ _ _, fun _ _ q => lit_R (mem := ⟨_, Tr.leaf⟩) q hv, fun _ => h.2 rfl, (fun e => by cases e)⟩
          · exact ⟨tm.set t (.one (.lb true)), set_sz _ _ _, fun _ _ q => lit_R (mem := ⟨_, Tr.leaf⟩) q hv, (fun e => by cases e), fun _ => h.1 rfl⟩
        · cases x
          · exact ⟨tm.set t (.one (.lb false)), set_sz _ _ _, fun _ _ q => lit_R (mem := ⟨_, Tr.leaf⟩) q hv, (fun e => by cases e), fun _ => h.2 rfl⟩
          · exact ⟨tm.set t (.one (.lb true)), set_sz _ _ _, fun _ _ q => lit_R (mem := ⟨_, Tr.leaf⟩) q hv, fun _ => h.1 rfl, (fun e => by cases e)⟩
      · split at h
        · rename_i l hl
          have hv := ht t
          rw [hl] at hv
          obtain ⟨vs, hv, _⟩ := hv
          have hy0 := yielded_tuple (j := j) hd hv
          exact ⟨tm, rfl, fun _ _ h => h, (fun e => by simp [hy0] at e), fun _ => h⟩
        · exact h.elim

theorem pickB_sound {o : Oper} {tm : TM} {a : Act} {t : Bool} {x y : AV} (hr : Rel C B w0 env tm mem a w) (h : pickB C o tm = some (t, x, y)) :
    ∃ vx vy, (execOp a.eval o).run C.P w = .ok (.value (cond t vx vy)) w ∧ x.R env mem.n vx ∧ y.R env mem.n vy := by
  unfold pickB at h
  split at h
  · rename_i c xo yo ho
    split at h
    · rename_i b hb
      cases h
      have hv := bool_val (.inr hb) (ev_R hr c)
      refine ⟨a.eval xo, a.eval yo, ?_, ev_R hr xo, ev_R hr yo⟩
      unfold execOp
      simp only [ho, hv, asBool, Sem.run_bind, Sem.run_pure, Result.andThen_ok]
      cases t <;> rfl
    · cases h
  · cases h

/-- A way to make calls that holds. -/
def CallOk (C : Cfg) (K : AV → Mem → Prop) (call : CallK) : Prop :=
  ∀ g args mem k, (call g args mem k).sat K → ∀ B w0 env w vals (S : Value → World → Prop), MR C B w0 env mem w → All2 (AV.R env mem.n) args vals →
    (∀ r mem' env' v w', (k r mem').sat K → MR C B w0 env' mem' w' → Ext env mem.n env' mem'.n → r.R env' mem'.n v → S v w') →
    (∃ fn, FnOk C.P g fn ∧ fn.body.isSome = true) ∧ Calls C.P g vals.toArray w fun e w' => ∃ v, e = .returned v ∧ S v w'

theorem call_run {g : Nat} {caps : List CV} {f : Operand} {args : Array Operand} {ts : Array TypeId} {o : Oper} {a : Act} {fn : Func} (ho : o.op = .call { callee := .value f, args, argTypes := ts })
    (hf : a.eval f = .func (.func g) #[] (caps.map (CV.conc env)).toArray) (hfn : FnOk C.P g fn) (hb : fn.body.isSome = true) (w : World) :
    (execOp a.eval o).run C.P w = .ok (.enter g (args.toList.map a.eval ++ caps.map (CV.conc env)).toArray) w := by
  unfold execOp
  simp only [ho]
  simp only [resolve, hf, Deferred.ofValue, Sem.run_bind, Sem.run_pure, Result.andThen_ok, invoke]
  rw [run_callFunc hfn hb]
  congr 2
  apply Array.ext'
  simp

theorem args_R {tm : TM} {a : Act} {caps : List CV} (hr : Rel C B w0 env tm mem a w) (hc : ∀ c ∈ caps, c.ok mem.n) (args : Array Operand) :
    All2 (AV.R env mem.n) (args.toList.map (ev C tm) ++ caps.map CV.av) (args.toList.map a.eval ++ caps.map (CV.conc env)) :=
  (evL_R hr args.toList).append (All2.both _ _ caps fun c h => CV.av_R (hc c h))

theorem runOps_sound (hE : ∀ p ∈ C.ex, ExOk C.P p.1 p.2) {call : CallK} (hcall : CallOk C K call) {ops : Array Oper} : ∀ (l : List Oper) (tm : TM) (mem : Mem) (k : TM → Mem → Out), (runOps C call ops.toList l tm mem k).sat K →
    ∀ B w0 env a w (Q : Exit → Act → World → Prop), Rel C B w0 env tm mem a w →
      (∀ tm' mem' env' a' w', (k tm' mem').sat K → Rel C B w0 env' tm' mem' a' w' → Ext env mem.n env' mem'.n → Q .normal a' w') → wpList C.P ops Q l a w
  | [], tm, mem, k, h, B, w0, env, a, w, Q, hr, hk => hk tm mem env a w h hr (Ext.refl _ _)
  | o :: rest, tm, mem, k, h, B, w0, env, a, w, Q, hr, hk => by
    obtain ⟨tm1, hsz1, htm1, hyes, hno⟩ := guarded_sat (ops := ops) h hr.tmp
    have hr : Rel C B w0 env tm1 mem a w := ⟨hr.size.trans hsz1.symm, htm1 _ _ hr.tmp, hr.defers, hr.mem⟩
    unfold wpList
    cases hw : Region.wanted o (yielded ops a.tmps) with
    | false =>
      simp only [Bool.false_eq_true, if_false]
      have hn := hno hw
      exact runOps_sound hE hcall rest _ _ _ hn B w0 env _ w Q (hr.put hr.mem (Ext.refl _ _) ⟨[], rfl, trivial⟩) hk
    | true =>
      simp only [if_true]
      refine .inl ?_
      have hy := hyes hw
      split at hy
      · rename_i t x y hp
        obtain ⟨vx, vy, hv, hx, hyy⟩ := pickB_sound hr hp
        simp only [Oper.wp, hv, Oper.upon]
        cases t with
        | true => exact runOps_sound hE hcall rest _ _ _ (hy.1 rfl) B w0 env _ w Q (hr.put hr.mem (Ext.refl _ _) hx) hk
        | false => exact runOps_sound hE hcall rest _ _ _ (hy.2 rfl) B w0 env _ w Q (hr.put hr.mem (Ext.refl _ _) hyy) hk
      split at hy
      · rename_i ps v hp
        obtain ⟨h1, h2⟩ := needs_sat hy
        obtain ⟨val, hv, hR⟩ := pureOp_sound hE hr hp h1
        simp only [Oper.wp, hv, Oper.upon]
        exact runOps_sound hE hcall rest _ _ _ h2 B w0 env _ w Q (hr.put hr.mem (Ext.refl _ _) hR) hk
      · split at hy
        · rename_i ps v mem' hp
          obtain ⟨h1, h2⟩ := needs_sat hy
          obtain ⟨nx, val, w', env', hv, hnx, hm, hx, hR⟩ := memOp_sound hr hp
          have hgo := runOps_sound hE hcall rest _ _ _ h2 B w0 env' _ w' Q (hr.put hm hx hR) (fun tm2 mem2 env2 a2 w2 q1 q2 q3 => hk tm2 mem2 env2 a2 w2 q1 q2 (hx.trans q3))
          rcases hnx with rfl | ⟨rfl, rfl⟩
          · simp only [Oper.wp, hv, Oper.upon]; exact hgo
          · simp only [Oper.wp, hv, Oper.upon]; exact hgo
        · split at hy
          · rename_i f args ts ho
            split at hy
            · rename_i g caps hf
              have hev := ev_R hr f
              rw [hf] at hev
              obtain ⟨hc, hfe⟩ := hev
              obtain ⟨⟨fn, hfn, hb⟩, hcalls⟩ := hcall _ _ _ _ hy B w0 env w _ (fun v w' => wpList C.P ops Q rest (a.put o.dst v) w') hr.mem (args_R hr hc args)
                (fun r mem' env' v w' q1 q2 q3 q4 => runOps_sound hE hcall rest _ _ _ q1 B w0 env' _ w' Q (hr.put q2 q3 q4) (fun tm2 mem2 env2 a2 w2 p1 p2 p3 => hk tm2 mem2 env2 a2 w2 p1 p2 (q3.trans p3)))
              simp only [Oper.wp, call_run ho hfe hfn hb w, Oper.upon]
              exact hcalls.mono fun e w' ⟨v, he, hS⟩ => by subst he; exact hS
            · exact hy.elim
          · exact hy.elim

end
end Go.Ax
