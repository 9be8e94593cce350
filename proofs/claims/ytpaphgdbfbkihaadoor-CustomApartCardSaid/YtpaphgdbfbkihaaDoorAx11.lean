/- The abstract executor is sound: the theorem, and what a call's contract reads off it. -/
import Derived.Test.YtpaphgdbfbkihaaDoorAx10
namespace Go.Ax
open Go Go.RowKit

section
variable {C : Cfg} {K : AV → Mem → Prop}

/-- What soundness says of runs with fuel n. -/
def ExecOk (C : Cfg) (K : AV → Mem → Prop) (n : Nat) : Prop :=
  ∀ task tm mem k, (exec C n task tm mem k).sat K → ∀ B w0 env a w (Q : Exit → Act → World → Prop), Rel C B w0 env tm mem a w →
    (∀ ae tm' mem' env' a' w', (k ae tm' mem').sat K → Rel C B w0 env' tm' mem' a' w' → Ext env mem.n env' mem'.n → Q ae.conc a' w') → TaskWp C.P task Q a w

/-- A body's run, from the call on. -/
theorem body_calls {n : Nat} (hx : ExecOk C K n) {g : Nat} {fn : Func} {c : Code} (hfn : FnOk C.P g fn) (hb : fn.body = some c) {args : List AV} {mem : Mem} {k : AV → Mem → Out} (hlen : args.length ≤ fn.ntmps)
    (h : (exec C n (.run c) (TM.enter fn.ntmps args) mem fun e tm mem' =>
        match e with
        | .normal | .ret => match resultsA C.P mem' tm fn.results.toList with
          | some r => k r mem'
          | none => .bad 12
        | _ => .bad 13).sat K) {B : Nat → Prop} {w0 w : World} {env : Nat → Nat} {vals : List Value} {S : Value → World → Prop} (hm : MR C B w0 env mem w) (ha : All2 (AV.R env mem.n) args vals)
    (hS : ∀ r mem' env' v w', (k r mem').sat K → MR C B w0 env' mem' w' → Ext env mem.n env' mem'.n → r.R env' mem'.n v → S v w') :
    Calls C.P g vals.toArray w fun e w' => ∃ v, e = .returned v ∧ S v w' := by
  refine calls_of_wp hfn.1 hb ?_
  refine hx _ _ _ _ h B w0 env _ w _ (enter_R hm ha hlen) ?_
  intro ae tm' mem' env' a' w' hk hr he
  cases ae with
  | normal =>
    dsimp only at hk
    split at hk
    · rename_i r hres
      obtain ⟨v, hv, hR⟩ := resultsA_sound hr hres
      exact ⟨hr.defers, v, hv, v, rfl, hS r mem' env' v w' hk hr.mem he hR⟩
    · exact hk.elim
  | ret =>
    dsimp only at hk
    split at hk
    · rename_i r hres
      obtain ⟨v, hv, hR⟩ := resultsA_sound hr hres
      exact ⟨hr.defers, v, hv, v, rfl, hS r mem' env' v w' hk hr.mem he hR⟩
    · exact hk.elim
  | exit id => exact hk.elim
  | goto l => exact hk.elim

theorem callWith_ok (hC : COk C) {n : Nat} (hx : ExecOk C K n) : CallOk C K (callWith C fun c => exec C n (.run c)) := by
  intro g args mem k h B w0 env w vals S hm ha hS
  unfold callWith at h
  split at h
  · rename_i F hF
    split at h
    · rename_i ps r hp
      obtain ⟨h1, h2⟩ := needs_sat h
      have h2 := bind_sat h2
      obtain ⟨hfn, hsum⟩ := hC.fsum _ (sumF_mem hF)
      refine ⟨hfn, (hsum args mem r ps hp h1 B w0 w env vals hm ha).mono ?_⟩
      rintro e w' ⟨v, he, hb, hr⟩
      obtain ⟨env', q1, q2, q3⟩ := hm.result hb hr
      exact ⟨v, he, hS _ _ env' v w' h2 q1 q2 q3⟩
    · exact h.elim
  split at h
  · rename_i F hF
    split at h
    · rename_i ps r mem' hp
      obtain ⟨h1, h2⟩ := needs_sat h
      have hq : (g, F) ∈ C.qs := by
        unfold sumQ at hF
        split at hF
        · cases hF
        · exact assoc_mem hF
      obtain ⟨hfn, hsum⟩ := hC.qsum _ hq
      refine ⟨hfn, (hsum args mem r mem' ps hp h1 B w0 w env vals hm ha).mono ?_⟩
      rintro e w' ⟨v, env', he, hm', hx', hR⟩
      exact ⟨v, he, hS r mem' env' v w' h2 hm' hx' hR⟩
    · exact h.elim
  split at h
  · rename_i F hF
    split at h
    · rename_i ps r hp
      split at h
      · rename_i hd
        obtain ⟨h1, h2⟩ := needs_sat h
        obtain ⟨hfn, hsum⟩ := hC.ps _ (assoc_mem hF)
        refine ⟨hfn, (hsum args mem r ps hp h1 B w0 w env vals hm ha).mono ?_⟩
        rintro e w' ⟨⟨v, he, hR⟩, hbl⟩
        exact ⟨v, he, hS r mem env v w' h2 (hm.later hbl) (Ext.refl _ _) hR⟩
      · exact h.elim
    · exact h.elim
  · split at h
    · rename_i fn hF
      have hfn := hC.fns _ (assoc_mem hF)
      split at h
      · rename_i c hb hlen
        exact ⟨⟨fn, hfn, by rw [hb]; rfl⟩, body_calls hx hfn hb (of_decide_eq_true hlen) h hm ha hS⟩
      · exact h.elim
    · exact h.elim

theorem loopC_spec {body bd : Code} {tm : TM} {mem : Mem} {r : Option (List Prop × AE × TM × Mem)} (h : loopC C body tm mem = some (bd, r)) : ∃ id F, (id, bd, F) ∈ C.lp ∧ r = F tm mem := by
  unfold loopC at h
  split at h
  · cases h
  · split at h
    · rename_i id _
      split at h
      · rename_i bd' F hA
        cases h
        exact ⟨id, F, assoc_mem hA, rfl⟩
      · cases h
    · cases h

theorem exec_ok (hC : COk C) : ∀ n, ExecOk C K n
  | 0 => fun task tm mem k h => by cases task <;> exact h.elim
  | n + 1 => by
    have ih := exec_ok hC n
    intro task tm mem k h B w0 env a w Q hr hk
    cases task with
    | again body =>
      simp only [exec] at h
      split at h
      · rename_i bd oq hq
        obtain ⟨rfl, h⟩ := h
        unfold roundQ at hq
        split at hq
        · rename_i bd' F hl
          split at hq
          · rename_i o' hF
            cases hq
            obtain ⟨id, hm⟩ : ∃ id, (id, body, F) ∈ C.lq := by
              unfold loopQ at hl
              split at hl
              · cases hl
              · split at hl
                · exact ⟨_, assoc_mem hl⟩
                · cases hl
            exact hC.lqs _ hm K k tm mem _ hF h B w0 env a w Q hr hk
          · cases hq
        · cases hq
      refine InLoop.round (ih (.run body) _ _ _ h B w0 env a w _ hr ?_)
      intro ae tm' mem' env' a' w' hk' hr' he
      cases ae with
      | normal => exact ih (.again body) _ _ _ hk' B w0 env' a' w' Q hr' (fun ae2 tm2 mem2 env2 a2 w2 q1 q2 q3 => hk ae2 tm2 mem2 env2 a2 w2 q1 q2 (he.trans q3))
      | exit id => exact hk _ _ _ _ _ _ hk' hr' he
      | goto l => exact hk _ _ _ _ _ _ hk' hr' he
      | ret => exact hk _ _ _ _ _ _ hk' hr' he
    | within rest body =>
      refine InScope.go (ih (.run rest) _ _ _ h B w0 env a w _ hr ?_)
      intro ae tm' mem' env' a' w' hk' hr' he
      cases ae with
      | normal => exact hk _ _ _ _ _ _ hk' hr' he
      | exit id => exact hk _ _ _ _ _ _ hk' hr' he
      | ret => exact hk _ _ _ _ _ _ hk' hr' he
      | goto l =>
        dsimp only at hk'
        split at hk'
        · rename_i rest' hf
          exact ⟨rest', hf, ih (.within rest' body) _ _ _ hk' B w0 env' a' w' Q hr' (fun ae2 tm2 mem2 env2 a2 w2 q1 q2 q3 => hk ae2 tm2 mem2 env2 a2 w2 q1 q2 (he.trans q3))⟩
        · exact hk'.elim
    | run c =>
      cases c with
      | skip => exact wp_skip (hk .normal _ _ _ _ _ h hr (Ext.refl _ _))
      | label l => exact wp_label (hk .normal _ _ _ _ _ h hr (Ext.refl _ _))
      | exit id => exact wp_exit (hk (.exit id) _ _ _ _ _ h hr (Ext.refl _ _))
      | goto l => exact wp_goto (hk (.goto l) _ _ _ _ _ h hr (Ext.refl _ _))
      | ret => exact wp_ret (hk .ret _ _ _ _ _ h hr (Ext.refl _ _))
      | loop body =>
        simp only [exec] at h
        split at h
        · rename_i bd ps e tm' mem' hl
          obtain ⟨rfl, h⟩ := h
          obtain ⟨h1, h2⟩ := needs_sat h
          obtain ⟨id, F, hm, hF⟩ := loopC_spec hl
          exact hC.lps _ hm tm mem ps e tm' mem' hF.symm h1 B w0 env a w Q hr (fun env' a' w' hr' hx => hk e _ _ _ _ _ h2 hr' hx)
        · exact h.elim
        · exact wp_loop_in (ih (.again body) _ _ _ h B w0 env a w Q hr hk)
      | scope body => exact wp_scope_in (ih (.within body body) _ _ _ h B w0 env a w Q hr hk)
      | seq x y =>
        refine wp_seq (ih (.run x) _ _ _ h B w0 env a w _ hr ?_)
        intro ae tm' mem' env' a' w' hk' hr' he
        cases ae with
        | normal => exact ih (.run y) _ _ _ hk' B w0 env' a' w' Q hr' (fun ae2 tm2 mem2 env2 a2 w2 q1 q2 q3 => hk ae2 tm2 mem2 env2 a2 w2 q1 q2 (he.trans q3))
        | exit id => exact hk _ _ _ _ _ _ hk' hr' he
        | goto l => exact hk _ _ _ _ _ _ hk' hr' he
        | ret => exact hk _ _ _ _ _ _ hk' hr' he
      | block id body =>
        refine wp_block (ih (.run body) _ _ _ h B w0 env a w _ hr ?_)
        intro ae tm' mem' env' a' w' hk' hr' he
        cases ae with
        | normal => exact hk _ _ _ _ _ _ hk' hr' he
        | goto l => exact hk _ _ _ _ _ _ hk' hr' he
        | ret => exact hk _ _ _ _ _ _ hk' hr' he
        | exit id' =>
          dsimp only at hk'
          show Exit.inBlock id Q (.exit id') a' w'
          simp only [Exit.inBlock]
          split at hk'
          · rename_i hb
            rw [if_pos (Nat.eq_of_beq_eq_true hb)]
            exact hk .normal _ _ _ _ _ hk' hr' he
          · rename_i hb
            rw [if_neg (fun e => by rw [e] at hb; rw [Nat.beq_refl] at hb; cases hb)]
            exact hk (.exit id') _ _ _ _ _ hk' hr' he
      | cond c x y =>
        simp only [exec] at h
        have hev := ev_R hr c
        split at h
        · rename_i hc
          have hv := bool_val (.inl hc) hev
          exact wp_cond_true hv (ih (.run x) _ _ _ h B w0 env a w Q hr hk)
        · rename_i hc
          have hv := bool_val (.inl hc) hev
          exact wp_cond_false hv (ih (.run y) _ _ _ h B w0 env a w Q hr hk)
        · rename_i t hc
          have hv := bool_val (.inr hc) hev
          refine wp_cond hv ?_
          split at h
          · rename_i ps tm' mem' hmc
            obtain ⟨h1, h2⟩ := needs_sat h
            unfold mergeC at hmc
            split at hmc
            · split at hmc
              · rename_i ops _
                obtain ⟨q1, q2⟩ := merge_sound hC (Option.some.inj hmc) (allP_imp h1) hr (fun env' a' w' hr' hx => hk .normal _ _ _ _ _ h2 hr' hx)
                cases t with
                | true => exact q1 rfl
                | false => exact wp_skip (q2 rfl)
              · cases hmc
            · cases hmc
          · exact h.elim
          · cases t with
            | true => exact ih (.run x) _ _ _ (h.1 rfl) B w0 env a w Q hr hk
            | false => exact ih (.run y) _ _ _ (h.2 rfl) B w0 env a w Q hr hk
        · exact h.elim
      | region id ops draw =>
        cases draw with
        | false =>
          simp only [exec] at h
          obtain ⟨tm1, hr, h⟩ := splitAt_sat hr h
          refine wp_region_list (runOps_sound hC.exs (callWith_ok hC ih) _ _ _ _ h B w0 env a w Q hr ?_)
          intro tm' mem' env' a' w' q1 q2 q3
          exact hk .normal _ _ _ _ _ q1 q2 q3
        | true =>
          simp only [exec] at h
          obtain ⟨tm1, hr, h⟩ := splitAt_sat hr h
          split at h
          · rename_i ops' hd hh
            refine open_headAt hC hh hr h ?_
            intro tm' mem' env' a' w' q1 q2 q3
            exact runOps_sound hC.exs (callWith_ok hC ih) _ _ _ _ q1 B w0 env' a' w' _ q2 (fun tm2 mem2 env2 a2 w2 p1 p2 p3 => ⟨(fun c e => by cases e), hk .normal _ _ _ _ _ p1 p2 (q3.trans p3)⟩)
          · exact h.elim
      | rangeFunc f params assign body => exact h.elim
      | refuse why => exact h.elim

end

/-- A function's contract, off its abstract run. -/
theorem callA_calls {C : Cfg} (hC : COk C) {tell : Bool} {n g : Nat} {fn : Func} (hfn : FnOk C.P g fn) {args : List AV} {mem : Mem} {K : AV → Mem → Prop} (h : (callA C tell n fn args mem).sat K)
    {B : Nat → Prop} {w0 w : World} {env : Nat → Nat} {vals : List Value} (hm : MR C B w0 env mem w) (ha : All2 (AV.R env mem.n) args vals) :
    Calls C.P g vals.toArray w fun e w' => ∃ v, e = .returned v ∧ ∃ r mem' env', K r (keepMem tell mem') ∧ MR C B w0 env' mem' w' ∧ Ext env mem.n env' mem'.n ∧ r.R env' mem'.n v := by
  unfold callA at h
  split at h
  · rename_i c hb hlen
    exact body_calls (exec_ok hC n) hfn hb (of_decide_eq_true hlen) (k := fun r mem' => .done r (keepMem tell mem')) h hm ha
      (fun r mem' env' v w' q1 q2 q3 q4 => ⟨r, mem', env', q1, q2, q3, q4⟩)
  · exact h.elim

end Go.Ax
