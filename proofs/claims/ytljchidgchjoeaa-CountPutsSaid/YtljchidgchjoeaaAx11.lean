/- The abstract executor is sound: the theorem, and what a call's contract reads off it. -/
import Derived.Test.YtljchidgchjoeaaAx10
namespace Go.Ax
open Go Go.RowKit

section
variable {C : Cfg} {K : AV → Mem → Prop}

/-- What soundness says of runs with fuel n. -/
def ExecOk (C : Cfg) (K : AV → Mem → Prop) (n : Nat) : Prop :=
  ∀ task tm mem k, (exec C n task tm mem k).sat K → ∀ B w0 env a w (Q : Exit → Act → World → Prop), Rel C B w0 env tm mem a w →
    (∀ ae tm' mem' env' a' w', (k ae tm' mem').sat K → Rel C B w0 env' tm' mem' a' w' → Ext env mem.n env' mem'.n → Q ae.conc a' w') → TaskWp C.J task Q a w

/-! ## A function's end -/

theorem MR.putObj {B : Nat → Prop} {w0 w : World} {env : Nat → Nat} {mem : Mem} {b : Nat} {x : LO} {ab' : AB} {o' : Obj} (h : MR C B w0 env mem w) (hg : mem.get b = some (.ob x)) (hb : ab'.R env mem.n B (w.putObj (env b) o') (env b)) :
    MR C B w0 env (mem.set b ab') (w.putObj (env b) o') :=
  MR.turn h hg rfl (fun _ hj => World.putObj_heap_other hj) World.putObj_size rfl rfl rfl hb

theorem DefJ.mono {P : Program} {J : Judg P} {g : FuncId} {args : Array Value} {pv : Option Value} {w : World} {R R' : World → Prop} (h : DefJ J g args pv w R) (hr : ∀ w', R w' → R' w') : DefJ J g args pv w R' :=
  fun fr cs S hS hm hR => h fr cs S hS hm fun w' q => hR w' (hr w' q)

theorem Dfs.ext' {env env' : Nat → Nat} {m m' : Nat} (hx : Ext env m env' m') {df : List DE} {ds : List Deferred} (h : All2 (DE.is env m) df ds) : Dfs env' m' df ds := Dfs.ext hx h
theorem shutA_sound (hC : COk C) {B : Nat → Prop} {w0 : World} {fn : Func} {tmps : Array Value} {R : Ending → World → Prop} : ∀ (df : List DE) (ds : List Deferred) (pv : Option Value) (mem : Mem) (env : Nat → Nat) (w : World) (k : Option Value → Mem → Out), (shutA C df pv mem k).sat K →
    MR C B w0 env mem w → Dfs env mem.n df ds → (∀ pv' mem' env' w', (k pv' mem').sat K → MR C B w0 env' mem' w' → Ext env mem.n env' mem'.n → leavesJ C.J fn tmps R [] pv' w') → leavesJ C.J fn tmps R ds pv w
  | [], [], pv, mem, env, w, k, h, hm, _, H => H pv mem env w h hm (Ext.refl _ _)
  | [], _ :: _, _, _, _, _, _, _, _, hd, _ => hd.elim
  | _ :: _, [], _, _, _, _, _, _, _, hd, _ => hd.elim
  | .mark d :: df, x :: ds, pv, mem, env, w, k, h, hm, hd, H => by
    obtain ⟨⟨rfl, hdn⟩, hds⟩ := hd
    unfold shutA at h
    split at h
    · rename_i hg
      have hblk := hm.blk d _ hg
      refine .inl ⟨env d, rfl, fun w1 h1 => ?_⟩
      obtain ⟨o, ho, rfl, hB⟩ := (hm.rely h1).blk d _ hg
      refine ⟨ho, shutA_sound hC df ds pv _ env _ k h ((hm.rely h1).putObj hg trivial) hds H⟩
    · exact h.elim
  | .call g args :: df, x :: ds, pv, mem, env, w, k, h, hm, hd, H => by
    obtain ⟨⟨caps, vals, rfl, ha⟩, hds⟩ := hd
    unfold shutA at h
    split at h
    · rename_i F hF
      split at h
      · rename_i ps mem' hp
        obtain ⟨h1, h2⟩ := needs_sat h
        obtain ⟨⟨gn, hgn, hgb⟩, hsum⟩ := hC.dcs _ (assoc_mem hF)
        refine .inr ⟨g, gn, caps.toArray, vals.toArray, rfl, hgn.1, hgn.2, hgb, fun w1 hw1 => ?_⟩
        have := hsum pv args mem mem' ps hp h1 B w0 w1 env (vals ++ caps) (hm.rely hw1) ha
        rw [show (vals ++ caps).toArray = vals.toArray ++ caps.toArray by simp] at this
        refine this.mono fun w' ⟨env', hm', hx⟩ => ?_
        exact shutA_sound hC df ds none mem' env' w' k h2 hm' (Dfs.ext' hx hds) fun pv2 mem2 env2 w2 q1 q2 q3 => H pv2 mem2 env2 w2 q1 q2 (hx.trans q3)
      · exact h.elim
    · exact h.elim

theorem leaveA_sound (hC : COk C) {B : Nat → Prop} {w0 w : World} {env : Nat → Nat} {tm : TM} {mem : Mem} {a : Act} {fn : Func} {e : AE} {k : AV → Mem → Out} {kp : Value → Mem → Out} {S Sp : Value → World → Prop} (h : (leaveA C fn k kp e tm mem).sat K) (hr : Rel C B w0 env tm mem a w)
    (hS : ∀ r mem' env' v w', (k r mem').sat K → MR C B w0 env' mem' w' → Ext env mem.n env' mem'.n → r.R env' mem'.n v → S v w')
    (hSp : ∀ v mem' env' w', (kp v mem').sat K → MR C B w0 env' mem' w' → Ext env mem.n env' mem'.n → Sp v w') : bodyPostJ C.J fn (CE S Sp) e.conc a w := by
  unfold leaveA at h
  split at h
  · rename_i pv hpv
    have key : leavesJ C.J fn a.tmps (CE S Sp) a.defers pv w := by
      refine shutA_sound hC tm.df a.defers pv mem env w _ h hr.mem hr.defers fun pv' mem' env' w' hk hm hx => ?_
      cases pv' with
      | none =>
        intro w1 h1
        dsimp only at hk
        split at hk
        · rename_i r hres
          obtain ⟨v, hv, hR⟩ := resultsA_sound (a := a) ⟨hr.size, fun t => AV.R_ext hx (hr.tmp t), hr.defers.ext hx, hm.rely h1⟩ hres
          exact ⟨v, hv, .inl ⟨v, rfl, hS r mem' env' v w1 hk (hm.rely h1) hx hR⟩⟩
        · exact hk.elim
      | some v => exact .inr ⟨v, rfl, hSp v mem' env' w' hk hm hx⟩
    cases e with
    | normal => cases hpv; exact key
    | ret => cases hpv; exact key
    | panic v => cases hpv; exact ⟨v, rfl, key⟩
    | exit id => cases hpv
    | goto l => cases hpv
  · exact h.elim

/-- A body's run, from the call on. -/
theorem body_calls (hC : COk C) {n : Nat} (hx : ExecOk C K n) {g : Nat} {fn : Func} {c : Code} (hfn : FnOk C.P g fn) (hb : fn.body = some c) {args : List AV} {mem : Mem} {k : AV → Mem → Out} {kp : Value → Mem → Out} (hlen : args.length ≤ fn.ntmps)
    (h : (exec C n (.run c) (TM.enter fn.ntmps args) mem (leaveA C fn k kp)).sat K) {B : Nat → Prop} {w0 w : World} {env : Nat → Nat} {vals : List Value} {S Sp : Value → World → Prop} (hm : MR C B w0 env mem w) (ha : All2 (AV.R env mem.n) args vals)
    (hS : ∀ r mem' env' v w', (k r mem').sat K → MR C B w0 env' mem' w' → Ext env mem.n env' mem'.n → r.R env' mem'.n v → S v w')
    (hSp : ∀ v mem' env' w', (kp v mem').sat K → MR C B w0 env' mem' w' → Ext env mem.n env' mem'.n → Sp v w') :
    CallsL C.J g vals.toArray w (CE S Sp) := by
  refine callsL_of_wp hfn.1 hb ?_
  refine hx _ _ _ _ h B w0 env _ w _ (enter_R hm ha hlen) ?_
  intro ae tm' mem' env' a' w' hk hr he
  exact leaveA_sound hC hk hr (fun r m2 env2 v w2 q1 q2 q3 q4 => hS r m2 env2 v w2 q1 q2 (he.trans q3) q4) (fun v m2 env2 w2 q1 q2 q3 => hSp v m2 env2 w2 q1 q2 (he.trans q3))

/-! ## Rounds -/

theorem sets_R {env : Nat → Nat} {m : Nat} : ∀ {ps : List Tmp} {args : List AV} {vals : List Value} {tm : TM} {tmps : Array Value}, All2 (AV.R env m) args vals → tmps.size = tm.sz → (∀ t, (tm.get t).R env m (tmps.getD t undef)) →
    ((ps.zip vals).foldl (fun tmps p => tmps.setIfInBounds p.1 p.2) tmps).size = (setsA (ps.zip args) tm).sz ∧ ∀ t, ((setsA (ps.zip args) tm).get t).R env m (((ps.zip vals).foldl (fun tmps p => tmps.setIfInBounds p.1 p.2) tmps).getD t undef)
  | [], _, _, _, _, _, hs, ht => ⟨hs, ht⟩
  | p :: ps, [], [], _, _, _, hs, ht => ⟨hs, ht⟩
  | _ :: _, [], _ :: _, _, _, h, _, _ => h.elim
  | _ :: _, _ :: _, [], _, _, h, _, _ => h.elim
  | p :: ps, x :: args, v :: vals, tm, tmps, h, hs, ht => by
    simp only [List.zip_cons_cons, List.foldl_cons, setsA]
    refine sets_R (ps := ps) h.2 (by rw [set_sz]; simpa using hs) fun t => ?_
    unfold TM.set
    split
    · rename_i hb
      have hlt : p < tmps.size := by rw [hs]; exact Nat.le_of_ble_eq_true hb
      simp only [TM.get]
      by_cases hpt : p = t
      · subst hpt
        have e : (tmps.setIfInBounds p v).getD p undef = v := by simp [hlt]
        rw [e]
        cases hg : (tm.t.set p x).get p with
        | none => trivial
        | some y => rw [Tr.get_set_eq _ _ _ _ hg]; exact h.1
      · rw [Tr.get_set_ne _ _ _ _ hpt]
        have e : (tmps.setIfInBounds p v).getD t undef = tmps.getD t undef := by simp [Array.getElem?_setIfInBounds_ne hpt]
        rw [e]; exact ht t
    · rename_i hb
      have hge : ¬ p < tmps.size := fun hlt => by
        have : Nat.blt p tm.sz = true := Nat.ble_eq_true_of_le (by rw [← hs]; exact hlt)
        rw [this] at hb; cases hb
      have e : tmps.setIfInBounds p v = tmps := by
        unfold Array.setIfInBounds
        rw [dif_neg hge]
      rw [e]; exact ht t
theorem setsA_df : ∀ {l : List (Tmp × AV)} {tm : TM}, (setsA l tm).df = tm.df
  | [], _ => rfl
  | p :: l, tm => (setsA_df (l := l)).trans (set_df _ _ _)

/-- What a round comes to. -/
theorem roundA_sound {n : Nat} (hx : ExecOk C K n) {l : Nat} {args : List AV} {mem : Mem} {k : AV → Mem → Out} (h : (roundA (fun c => exec C n (.run c)) l args mem k).sat K) {B : Nat → Prop} {w0 w : World} {env : Nat → Nat} {vals : List Value} {S Sp : Value → World → Prop}
    (hm : MR C B w0 env mem w) (ha : All2 (AV.R env mem.n) args vals) (hS : ∀ r mem' env' v w', (k r mem').sat K → MR C B w0 env' mem' w' → Ext env mem.n env' mem'.n → r.R env' mem'.n v → S v w') : TgtOk C env mem w vals S Sp (.yl l) := by
  unfold roundA at h
  split at h
  · rename_i st pe tm ps as bd d hg
    split at h
    · rename_i hc
      simp only [Bool.and_eq_true] at hc
      obtain ⟨⟨hlen, has⟩, hbd⟩ := hc
      have hlen := Nat.eq_of_beq_eq_true hlen
      obtain ⟨o, ho, ⟨fid, tmps, rfl, hd, hsz, ht⟩, hnB⟩ := hm.blk l _ hg
      have hll := hm.lt l _ hg
      have hvl : vals.toArray.size = ps.size := by have := ha.length; simp; omega
      refine ⟨fid, _, as, bd, run_yield ho hvl, roundJ has hbd ?_⟩
      have hfold : ((ps.zip vals.toArray).foldl (fun tmps (t, a) => tmps.setIfInBounds t a) tmps) = (ps.toList.zip vals).foldl (fun tmps p => tmps.setIfInBounds p.1 p.2) tmps := by
        rw [← Array.foldl_toList]
        simp
      rw [hfold]
      obtain ⟨q1, q2⟩ := sets_R (ps := ps.toList) (tm := ⟨tm.sz, tm.t, []⟩) ha hsz ht
      -- a round's end
      have fin : ∀ (mem2 : Mem) (env2 : Nat → Nat) (w2 : World) (ae : AE) (tm2 : TM), (endRoundA l k ae tm2 mem2).sat K → MR C B w0 env2 mem2 w2 → Ext env mem.n env2 mem2.n →
          match ae with
          | .normal => roundEnd C.J (env l) (CE S Sp) none w2
          | .ret => roundEnd C.J (env l) (CE S Sp) (some .ret) w2
          | .exit id => roundEnd C.J (env l) (CE S Sp) (some (.exit id)) w2
          | .goto t => roundEnd C.J (env l) (CE S Sp) (some (.goto t)) w2
          | .panic _ => False := fun mem2 env2 w2 ae tm2 hk hm2 hx2 => by
        have hel : env2 l = env l := hx2.2 l hll
        unfold endRoundA at hk
        split at hk
        · rename_i st2 pe2 tmx psx asx bdx dx hg2
          have key : ∀ (jump : Option Code) (b : Bool) (st' : LoopState), st' = (if jump.isNone then .ready else .done) → b = jump.isNone → (k (.one (.lb b)) (mem2.set l (.ob (.lp st' jump tmx psx asx bdx dx)))).sat K → roundEnd C.J (env l) (CE S Sp) jump w2 := fun jump b st' hst hb hk w3 h3 => by
            have hm3 := hm2.rely h3
            obtain ⟨o2, ho2, ⟨fid2, tmps2, rfl, hd2, hsz2, ht2⟩, hnB2⟩ := hm3.blk l _ hg2
            rw [hel] at ho2
            refine ⟨_, ho2, .inl ⟨_, rfl, ?_⟩⟩
            have hlt : env2 l < w3.heap.size := by rw [hel]; exact (Array.getElem?_eq_some_iff.1 ho2).1
            have := hm3.putObj (ab' := .ob (.lp st' jump tmx psx asx bdx dx)) (o' := .loop { state := st', pending := jump, fn := fid2, tmps := tmps2, params := psx, assign := asx, body := bdx, defers := env2 dx }) hg2
              ⟨_, World.putObj_heap_same hlt, ⟨fid2, tmps2, rfl, hd2, hsz2, ht2⟩, hnB2⟩
            rw [hel] at this
            subst hst hb
            exact hS _ _ env2 _ _ hk this hx2 ⟨trivial, rfl⟩
          cases ae with
          | normal => exact key none true .ready rfl rfl hk
          | ret => exact key (some .ret) false .done rfl rfl hk
          | exit id => exact key (some (.exit id)) false .done rfl rfl hk
          | goto t => exact key (some (.goto t)) false .done rfl rfl hk
          | panic v => exact hk.elim
        · exact hk.elim
      refine hx (.run as) _ _ _ h B w0 env { tmps := _, defers := [] } w _ ⟨q1, q2, by rw [setsA_df]; exact Dfs.nil, hm⟩ ?_
      intro ae tm1 mem1 env1 a1 w1 hk1 hr1 hx1
      cases ae with
      | normal =>
        refine ⟨rfl, ?_⟩
        dsimp only at hk1
        split at hk1
        · rename_i pe1 tmx psx asx bdx dx hg1
          intro w2 h2
          have hm2 := hr1.mem.rely h2
          have hel : env1 l = env l := hx1.2 l hll
          obtain ⟨o2, ho2, ⟨fid2, tmps2, rfl, hd2, hsz2, ht2⟩, hnB2⟩ := hm2.blk l _ hg1
          rw [hel] at ho2
          refine ⟨_, ho2, rfl, ?_⟩
          have hlt : env1 l < w2.heap.size := by rw [hel]; exact (Array.getElem?_eq_some_iff.1 ho2).1
          have hm3 := hm2.putObj (ab' := .ob (.lp .busy pe1 tmx psx asx bdx dx)) (o' := .loop { state := .busy, pending := pe1, fn := fid2, tmps := tmps2, params := psx, assign := asx, body := bdx, defers := env1 dx }) hg1
            ⟨_, World.putObj_heap_same hlt, ⟨fid2, tmps2, rfl, hd2, hsz2, ht2⟩, hnB2⟩
          rw [hel] at hm3
          refine hx (.run bd) _ _ _ hk1 B w0 env1 a1 _ _ ⟨hr1.size, hr1.tmp, hr1.defers, hm3⟩ ?_
          intro ae2 tm2 mem2 env2 a2 w3 hk2 hr2 hx2
          have := fin mem2 env2 w3 ae2 tm2 hk2 hr2.mem (hx1.trans hx2)
          cases ae2 with
          | normal => exact this
          | ret => exact this
          | exit id => exact this
          | goto t => exact this
          | panic v => exact this.elim
        · exact hk1.elim
      | exit id => exact hk1.elim
      | goto t => exact hk1.elim
      | ret => exact hk1.elim
      | panic v => exact hk1.elim
    · exact h.elim
  · exact h.elim

theorem callWith_ok (hC : COk C) {n : Nat} (hx : ExecOk C K n) : CallOk C K (callWith C fun c => exec C n (.run c)) := by
  intro tgt args mem k kp h B w0 env w vals S Sp hm ha hS hSp
  cases tgt with
  | yl l => exact roundA_sound hx h hm ha hS
  | fn g =>
    unfold callWith at h
    dsimp only at h
    split at h
    · rename_i F hF
      split at h
      · rename_i ps r hp
        obtain ⟨h1, h2⟩ := needs_sat h
        have h2 := bind_sat h2
        obtain ⟨hfn, hsum⟩ := hC.fsum _ (sumF_mem hF)
        refine ⟨hfn, (hsum args mem r ps hp h1 B w0 w env vals hm ha).mono ?_⟩
        rintro e w' ⟨v, he, hb, hr⟩
        obtain ⟨env', q1, q2, q3⟩ := hm.result hb hr
        exact .inl ⟨v, he, hS _ _ env' v w' h2 q1 q2 q3⟩
      · exact h.elim
    split at h
    · rename_i F hF
      split at h
      · rename_i ps r mem' hp
        obtain ⟨h1, h2⟩ := needs_sat h
        have hq : (g, F) ∈ C.qs := by
          unfold sumQ at hF
          split at hF
          · cases hF
          · exact assoc_mem hF
        obtain ⟨hfn, hsum⟩ := hC.qsum _ hq
        refine ⟨hfn, (hsum args mem r mem' ps hp h1 B w0 w env vals hm ha).mono ?_⟩
        rintro e w' ⟨v, env', he, hm', hx', hR⟩
        exact .inl ⟨v, he, hS r mem' env' v w' h2 hm' hx' hR⟩
      · exact h.elim
    split at h
    · rename_i F hF
      split at h
      · rename_i ps r hp
        split at h
        · rename_i hd
          obtain ⟨h1, h2⟩ := needs_sat h
          obtain ⟨hfn, hsum⟩ := hC.ps _ (assoc_mem hF)
          refine ⟨hfn, (hsum args mem r ps hp h1 B w0 w env vals hm ha).mono ?_⟩
          rintro e w' ⟨⟨v, he, hR⟩, hbl⟩
          exact .inl ⟨v, he, hS r mem env v w' h2 (hm.later hbl) (Ext.refl _ _) hR⟩
        · exact h.elim
      · exact h.elim
    · split at h
      · rename_i fn hF
        have hfn := hC.fns _ (assoc_mem hF)
        split at h
        · rename_i c hb hlen
          exact ⟨⟨fn, hfn, by rw [hb]; rfl⟩, (body_calls hC hx hfn hb (of_decide_eq_true hlen) h hm ha hS hSp).calls⟩
        · exact h.elim
      · exact h.elim

theorem loopC_spec {body bd : Code} {tm : TM} {mem : Mem} {r : Option (List Prop × AE × TM × Mem)} (h : loopC C body tm mem = some (bd, r)) : ∃ id F, (id, bd, F) ∈ C.lp ∧ r = F tm mem := by
  unfold loopC at h
  split at h
  · cases h
  · split at h
    · rename_i id _
      split at h
      · rename_i bd' F hA
        cases h
        exact ⟨id, F, assoc_mem hA, rfl⟩
      · cases h
    · cases h

/-- A postcondition that the others' draws leave. -/
def Stb {P : Program} (J : Judg P) (Q : Exit → Act → World → Prop) : Exit → Act → World → Prop := fun e a w => ∀ w1, J.rel w w1 → Q e a w1

/-- A range over a function. -/
theorem range_sound (hC : COk C) {n : Nat} (hx : ExecOk C K n) {g : Operand} {f : Nat} {caps : List CV} {ps : Array Tmp} {as bd : Code} {tm : TM} {mem : Mem} {k : AE → TM → Mem → Out} {B : Nat → Prop} {w0 w : World} {env : Nat → Nat} {a : Act} {Q : Exit → Act → World → Prop}
    (hr : Rel C B w0 env tm mem a w) (hg : ev C tm g = .one (.fn f caps))
    (h : (callWith C (fun c => exec C n (.run c)) (.fn f) (.one (.yl (mem.n + 1)) :: caps.map CV.av) ((mem.push (.ob .df)).push (.ob (.lp .ready none ⟨tm.sz, tm.t, []⟩ ps as bd mem.n))) (endLoopA (mem.n + 1) mem.n tm k) (fun _ _ => .bad 66)).sat K)
    (hk : ∀ ae tm' mem' env' a' w', (k ae tm' mem').sat K → Rel C B w0 env' tm' mem' a' w' → Ext env mem.n env' mem'.n → Q ae.conc a' w') : wpJ C.J (.rangeFunc g ps as bd) Q a w := by
  have hev := ev_R hr g
  rw [hg] at hev
  obtain ⟨hcok, hfe⟩ := hev
  -- the two blocks
  have blocks : ∀ w1, C.J.rel w w1 → ∀ fid : FuncId, ∃ env2 : Nat → Nat, env2 mem.n = w1.heap.size ∧ env2 (mem.n + 1) = w1.heap.size + 1 ∧ Ext env mem.n env2 (mem.n + 2) ∧
      MR C B w0 env2 ((mem.push (.ob .df)).push (.ob (.lp .ready none ⟨tm.sz, tm.t, []⟩ ps as bd mem.n))) ((w1.alloc (.deferred (some []))).alloc (.loop { state := .ready, pending := none, fn := fid, tmps := a.tmps, params := ps, assign := as, body := bd, defers := w1.heap.size })) := fun w1 h1 fid => by
    have hm1 := hr.mem.rely h1
    have nB : ∀ x, w1.heap.size ≤ x → ¬ B x := fun x hx hB => by have := hm1.base x hB; omega
    have p1 := hm1.pushObj (ab := .ob .df) (o := .deferred (some [])) ⟨_, heap_alloc_new _ _, rfl, nB _ (Nat.le_refl _)⟩
    have x1 := Ext.push env mem.n w1.heap.size
    have e1 : envPush env mem.n w1.heap.size mem.n = w1.heap.size := if_pos rfl
    have hsz : (w1.alloc (.deferred (some []))).heap.size = w1.heap.size + 1 := World.size_alloc ..
    have x2 := Ext.push (envPush env mem.n w1.heap.size) (mem.n + 1) (w1.heap.size + 1)
    have p2 := p1.pushObj (ab := .ob (.lp .ready none ⟨tm.sz, tm.t, []⟩ ps as bd mem.n)) (o := .loop { state := .ready, pending := none, fn := fid, tmps := a.tmps, params := ps, assign := as, body := bd, defers := w1.heap.size })
      ⟨_, heap_alloc_new _ _, ⟨fid, a.tmps, by
          show Obj.loop _ = Obj.loop _
          congr 2
          rw [hsz]
          exact (((x2.2 mem.n (by omega)).trans e1)).symm, by show mem.n < mem.n + 1 + 1; omega, hr.size, fun t => by
          rw [hsz]
          exact AV.R_ext x2 (AV.R_ext x1 (hr.tmp t))⟩, nB _ (by rw [hsz]; omega)⟩
    rw [hsz] at p2
    have e2 : envPush (envPush env mem.n w1.heap.size) (mem.n + 1) (w1.heap.size + 1) (mem.n + 1) = w1.heap.size + 1 := if_pos rfl
    exact ⟨_, (x2.2 mem.n (by omega)).trans e1, e2, x1.trans x2, p2⟩
  have tgt : ∀ w1, C.J.rel w w1 → ∀ fid : FuncId, (∃ fn, FnOk C.P f fn ∧ fn.body.isSome = true) ∧ CallsJ C.J f (#[.func (.yield (w1.heap.size + 1)) #[] #[]] ++ (caps.map (CV.conc env)).toArray)
      ((w1.alloc (.deferred (some []))).alloc (.loop { state := .ready, pending := none, fn := fid, tmps := a.tmps, params := ps, assign := as, body := bd, defers := w1.heap.size }))
      (CE (fun _ w' => loopEnd C.J (w1.heap.size + 1) Q { a with defers := { target := .collected w1.heap.size, args := #[] } :: a.defers } w') (fun _ _ => False)) := fun w1 h1 fid => by
    obtain ⟨env2, e1, e2, x2, hm2⟩ := blocks w1 h1 fid
    have ha : All2 (AV.R env2 (mem.n + 2)) (.one (.yl (mem.n + 1)) :: caps.map CV.av) (.func (.yield (w1.heap.size + 1)) #[] #[] :: caps.map (CV.conc env)) :=
      ⟨⟨by show mem.n + 1 < mem.n + 2; omega, by simp only [SV.conc]; rw [e2]⟩, All2.both _ _ caps fun c hc => AV.R_ext x2 (CV.av_R (hcok c hc))⟩
    have := callWith_ok hC hx (.fn f) _ _ _ _ h B w0 env2 _ _ (fun _ w' => loopEnd C.J (w1.heap.size + 1) Q { a with defers := { target := .collected w1.heap.size, args := #[] } :: a.defers } w') (fun _ _ => False) hm2 ha
      (fun r mem' env' v w' q1 q2 q3 q4 => ?_) (fun v mem' env' w' q1 _ _ => q1)
    · have e : (#[Value.func (.yield (w1.heap.size + 1)) #[] #[]] ++ (caps.map (CV.conc env)).toArray) = (Value.func (.yield (w1.heap.size + 1)) #[] #[] :: caps.map (CV.conc env)).toArray := by simp
      rw [e]; exact this
    · have hel : env' (mem.n + 1) = w1.heap.size + 1 := (q3.2 _ (by show mem.n + 1 < mem.n + 1 + 1; omega)).trans e2
      have hed : env' mem.n = w1.heap.size := (q3.2 _ (by show mem.n < mem.n + 1 + 1; omega)).trans e1
      have hx' : Ext env mem.n env' mem'.n := x2.trans q3
      have fin : ∀ (st : LoopState) (pe : Option Code) (tmx : TM) (psx : Array Tmp) (asx bdx : Code) (dx : Nat) (ae : AE), mem'.get (mem.n + 1) = some (.ob (.lp st pe tmx psx asx bdx dx)) → st ≠ .busy → (k ae ⟨tm.sz, tm.t, .mark mem.n :: tm.df⟩ (mem'.set (mem.n + 1) .gone)).sat K →
          ∀ w2, C.J.rel w' w2 → ∃ r : Loop, w2.heap[w1.heap.size + 1]? = some (.loop r) ∧ r.state ≠ .busy ∧ r.pending = pe ∧ Q ae.conc { a with defers := { target := .collected w1.heap.size, args := #[] } :: a.defers } (w2.putObj (w1.heap.size + 1) (.loop { r with state := .exhausted })) := fun st pe tmx psx asx bdx dx ae hgl hst hsat w2 h2 => by
        have hm3 := q2.rely h2
        obtain ⟨o2, ho2, ⟨fid2, tmps2, rfl, hd2, hsz2, ht2⟩, hnB2⟩ := hm3.blk _ _ hgl
        rw [hel] at ho2
        refine ⟨_, ho2, hst, rfl, ?_⟩
        have hm4 := hm3.putObj (ab' := .gone) (o' := .loop { state := .exhausted, pending := pe, fn := fid2, tmps := tmps2, params := psx, assign := asx, body := bdx, defers := env' dx }) hgl trivial
        rw [hel] at hm4
        exact hk ae _ _ env' _ _ hsat ⟨hr.size, fun t => AV.R_ext hx' (hr.tmp t), ⟨⟨by rw [hed], Nat.lt_of_lt_of_le (by show mem.n < mem.n + 1 + 1; omega) q3.1⟩, hr.defers.ext hx'⟩, hm4⟩ hx'
      unfold endLoopA at q1
      intro w2 h2
      split at q1
      · rename_i hgl
        obtain ⟨r2, r3, r4, r5, r6⟩ := fin _ _ _ _ _ _ _ .normal hgl (by simp) q1 w2 h2
        exact ⟨r2, r3, r4, by obtain ⟨x1, x2, x3, x4, x5, x6, x7, x8⟩ := r2; dsimp only at r5; subst r5; exact r6⟩
      · rename_i hgl
        obtain ⟨r2, r3, r4, r5, r6⟩ := fin _ _ _ _ _ _ _ .ret hgl (by simp) q1 w2 h2
        exact ⟨r2, r3, r4, by obtain ⟨x1, x2, x3, x4, x5, x6, x7, x8⟩ := r2; dsimp only at r5; subst r5; exact r6⟩
      · rename_i id _ _ _ _ _ hgl
        obtain ⟨r2, r3, r4, r5, r6⟩ := fin _ _ _ _ _ _ _ (.exit id) hgl (by simp) q1 w2 h2
        exact ⟨r2, r3, r4, by obtain ⟨x1, x2, x3, x4, x5, x6, x7, x8⟩ := r2; dsimp only at r5; subst r5; exact r6⟩
      · rename_i t _ _ _ _ _ hgl
        obtain ⟨r2, r3, r4, r5, r6⟩ := fin _ _ _ _ _ _ _ (.goto t) hgl (by simp) q1 w2 h2
        exact ⟨r2, r3, r4, by obtain ⟨x1, x2, x3, x4, x5, x6, x7, x8⟩ := r2; dsimp only at r5; subst r5; exact r6⟩
      · exact q1.elim
  obtain ⟨⟨fn, hfn, hb⟩, _⟩ := tgt w (C.J.refl w) 0
  refine wpJ_rangeFunc hfe hfn.1 hfn.2 hb fun w1 h1 fid => (tgt w1 h1 fid).2.mono fun e w' he => ?_
  rcases he with ⟨v, rfl, hl⟩ | ⟨v, _, hf⟩
  · exact ⟨v, rfl, hl⟩
  · exact hf.elim

/-! ## Regions in parts -/

theorem callEnd_Q {P : Program} {J : Judg P} {o : Oper} {a : Act} {M : Act → World → Prop} {Q Q' : Exit → Act → World → Prop} (h : ∀ c a w, Q' (.panic c) a w → Q (.panic c) a w) : ∀ e w, callEnd o a M Q' e w → callEnd o a M Q e w := by
  intro e w he
  cases e with
  | returned v => exact he
  | panicked c => exact h _ _ _ he
  | outgrown => exact he
theorem uponJ_Q {P : Program} {J : Judg P} {o : Oper} {a : Act} {M : Act → World → Prop} {Q Q' : Exit → Act → World → Prop} (h : ∀ c a w, Q' (.panic c) a w → Q (.panic c) a w) {r : Result Next} (hh : uponJ J o a M Q' r) : uponJ J o a M Q r := by
  cases r with
  | ok n w' =>
    cases n <;> first
      | exact hh
      | exact CallsJ.mono hh (callEnd_Q (P := P) (J := J) h)
      | exact RoundJ.mono hh (callEnd_Q (P := P) (J := J) h)
      | exact hh.elim
  | halt x w' => cases x <;> first | exact h _ _ _ hh | exact hh.elim

theorem segRun_sound (hC : COk C) {call : CallK} (hcall : CallOk C K call) {ops : Array Oper} (hback : backB ops = true) {B : Nat → Prop} {w0 : World} : ∀ (f : Nat) (i : Nat) (pl : List (Option Nat)), segPlan ops f i = some pl → ∀ (tm : TM) (mem : Mem) (k : AE → TM → Mem → Out), (segRun C call ops pl i tm mem k).sat K →
    ∀ (env : Nat → Nat) (a : Act) (w : World) (Q : Exit → Act → World → Prop), Rel C B w0 env tm mem a w →
      (∀ e tm' mem' env' a' w', (k e tm' mem').sat K → Rel C B w0 env' tm' mem' a' w' → Ext env mem.n env' mem'.n → Q e.conc a' w') → wpAnyJ C.J .any ops Q (ops.size - i) (firstsA ops i) a w
  | 0, i, pl, hp, tm, mem, k, h, env, a, w, Q, hr, hk => by cases hp
  | f + 1, i, pl, hp, tm, mem, k, h, env, a, w, Q, hr, hk => by
    simp only [segPlan] at hp
    split at hp
    · rename_i hle
      cases hp
      exact any_done (Nat.le_of_ble_eq_true hle) (hk .normal tm mem env a w h hr (Ext.refl _ _))
    · rename_i hle
      have hlt : i < ops.size := by
        rcases Nat.lt_or_ge i ops.size with h' | h'
        · exact h'
        · rw [Nat.ble_eq_true_of_le h'] at hle; cases hle
      split at hp
      · rename_i hone
        obtain ⟨pl', hpl, rfl⟩ := Option.map_eq_some_iff.1 hp
        have hr1 := of_decide_eq_true hone
        simp only [segRun] at h
        have ho : (ops.toList.drop i).take 1 = [ops[i]] := by
          rw [List.drop_eq_getElem_cons (by simpa using hlt)]
          simp
        rw [ho] at h
        refine any_one hlt hr1 ?_
        let Q' : Exit → Act → World → Prop := fun e a w => match e with
          | .normal => wpAnyJ C.J .any ops Q (ops.size - (i + 1)) (firstsA ops (i + 1)) a w
          | e => Q e a w
        have hw : wpListJ C.J ops Q' [ops[i]] a w := runOps_sound hC hcall [ops[i]] tm mem _ h B w0 env a w Q' hr fun e tm' mem' env' a' w' q1 q2 q3 => by
          cases e with
          | normal => exact segRun_sound hC hcall hback f (i + 1) pl' hpl tm' mem' k q1 env' a' w' Q q2 fun e2 tm2 mem2 env2 a2 w2 p1 p2 p3 => hk e2 tm2 mem2 env2 a2 w2 p1 p2 (q3.trans p3)
          | exit id => exact hk _ tm' mem' env' a' w' q1 q2 q3
          | goto l => exact hk _ tm' mem' env' a' w' q1 q2 q3
          | ret => exact hk _ tm' mem' env' a' w' q1 q2 q3
          | panic v => exact hk _ tm' mem' env' a' w' q1 q2 q3
        unfold wpListJ at hw
        unfold wpOpJ
        simp only [Array.getElem?_eq_getElem hlt]
        split at hw
        · rename_i hwd
          rw [if_pos hwd]
          exact ⟨hw.1, fun w1 h1 => uponJ_Q (fun c a w q => q) (hw.2 w1 h1)⟩
        · rename_i hwd
          rw [if_neg hwd]
          exact hw
      · split at hp
        · rename_i hc
          obtain ⟨pl', hpl, rfl⟩ := Option.map_eq_some_iff.1 hp
          simp only [segRun] at h
          simp only [Bool.and_eq_true, Bool.or_eq_true] at hc
          obtain ⟨⟨⟨h1, h2⟩, h3⟩, h4⟩ := hc
          exact open_part hC hback (Nat.le_of_ble_eq_true h1) (Nat.le_of_ble_eq_true h2) (h3.imp Nat.eq_of_beq_eq_true id) h4 hr h fun tm' mem' env' a' w' q1 q2 q3 =>
            segRun_sound hC hcall hback f _ pl' hpl tm' mem' k q1 env' a' w' Q q2 fun e2 tm2 mem2 env2 a2 w2 p1 p2 p3 => hk e2 tm2 mem2 env2 a2 w2 p1 p2 (q3.trans p3)
        · cases hp


theorem exec_ok (hC : COk C) : ∀ n, ExecOk C K n
  | 0 => fun task tm mem k h => by cases task <;> exact h.elim
  | n + 1 => by
    have ih := exec_ok hC n
    intro task tm mem k h B w0 env a w Q hr hk
    cases task with
    | again body =>
      simp only [exec] at h
      split at h
      · rename_i bd oq hq
        obtain ⟨rfl, h⟩ := h
        unfold roundQ at hq
        split at hq
        · rename_i bd' F hl
          split at hq
          · rename_i o' hF
            cases hq
            obtain ⟨id, hm⟩ : ∃ id, (id, body, F) ∈ C.lq := by
              unfold loopQ at hl
              split at hl
              · cases hl
              · split at hl
                · exact ⟨_, assoc_mem hl⟩
                · cases hl
            exact hC.lqs _ hm K k tm mem _ hF h B w0 env a w Q hr hk
          · cases hq
        · cases hq
      refine InLoopJ.round (ih (.run body) _ _ _ h B w0 env a w _ hr ?_)
      intro ae tm' mem' env' a' w' hk' hr' he
      cases ae with
      | normal => exact ih (.again body) _ _ _ hk' B w0 env' a' w' Q hr' (fun ae2 tm2 mem2 env2 a2 w2 q1 q2 q3 => hk ae2 tm2 mem2 env2 a2 w2 q1 q2 (he.trans q3))
      | exit id => exact hk _ _ _ _ _ _ hk' hr' he
      | goto l => exact hk _ _ _ _ _ _ hk' hr' he
      | ret => exact hk _ _ _ _ _ _ hk' hr' he
      | panic v => exact hk _ _ _ _ _ _ hk' hr' he
    | within rest body =>
      refine InScopeJ.go (ih (.run rest) _ _ _ h B w0 env a w _ hr ?_)
      intro ae tm' mem' env' a' w' hk' hr' he
      cases ae with
      | normal => exact hk _ _ _ _ _ _ hk' hr' he
      | exit id => exact hk _ _ _ _ _ _ hk' hr' he
      | ret => exact hk _ _ _ _ _ _ hk' hr' he
      | panic v => exact hk _ _ _ _ _ _ hk' hr' he
      | goto l =>
        dsimp only at hk'
        split at hk'
        · rename_i rest' hf
          exact ⟨rest', hf, ih (.within rest' body) _ _ _ hk' B w0 env' a' w' Q hr' (fun ae2 tm2 mem2 env2 a2 w2 q1 q2 q3 => hk ae2 tm2 mem2 env2 a2 w2 q1 q2 (he.trans q3))⟩
        · exact hk'.elim
    | run c =>
      cases c with
      | skip => exact wpJ_skip (hk .normal _ _ _ _ _ h hr (Ext.refl _ _))
      | label l => exact wpJ_label (hk .normal _ _ _ _ _ h hr (Ext.refl _ _))
      | exit id => exact wpJ_exit (hk (.exit id) _ _ _ _ _ h hr (Ext.refl _ _))
      | goto l => exact wpJ_goto (hk (.goto l) _ _ _ _ _ h hr (Ext.refl _ _))
      | ret => exact wpJ_ret (hk .ret _ _ _ _ _ h hr (Ext.refl _ _))
      | loop body =>
        simp only [exec] at h
        split at h
        · rename_i bd ps e tm' mem' hl
          obtain ⟨rfl, h⟩ := h
          obtain ⟨h1, h2⟩ := needs_sat h
          obtain ⟨id, F, hm, hF⟩ := loopC_spec hl
          exact hC.lps _ hm tm mem ps e tm' mem' hF.symm h1 B w0 env a w Q hr (fun env' a' w' hr' hx => hk e _ _ _ _ _ h2 hr' hx)
        · exact h.elim
        · exact wpJ_loop_in (ih (.again body) _ _ _ h B w0 env a w Q hr hk)
      | scope body => exact wpJ_scope_in (ih (.within body body) _ _ _ h B w0 env a w Q hr hk)
      | seq x y =>
        refine wpJ_seq (ih (.run x) _ _ _ h B w0 env a w _ hr ?_)
        intro ae tm' mem' env' a' w' hk' hr' he
        cases ae with
        | normal => exact ih (.run y) _ _ _ hk' B w0 env' a' w' Q hr' (fun ae2 tm2 mem2 env2 a2 w2 q1 q2 q3 => hk ae2 tm2 mem2 env2 a2 w2 q1 q2 (he.trans q3))
        | exit id => exact hk _ _ _ _ _ _ hk' hr' he
        | goto l => exact hk _ _ _ _ _ _ hk' hr' he
        | ret => exact hk _ _ _ _ _ _ hk' hr' he
        | panic v => exact hk _ _ _ _ _ _ hk' hr' he
      | block id body =>
        refine wpJ_block (ih (.run body) _ _ _ h B w0 env a w _ hr ?_)
        intro ae tm' mem' env' a' w' hk' hr' he
        cases ae with
        | normal => exact hk _ _ _ _ _ _ hk' hr' he
        | goto l => exact hk _ _ _ _ _ _ hk' hr' he
        | ret => exact hk _ _ _ _ _ _ hk' hr' he
        | panic v => exact hk _ _ _ _ _ _ hk' hr' he
        | exit id' =>
          dsimp only at hk'
          show Exit.inBlock id Q (.exit id') a' w'
          simp only [Exit.inBlock]
          split at hk'
          · rename_i hb
            rw [if_pos (Nat.eq_of_beq_eq_true hb)]
            exact hk .normal _ _ _ _ _ hk' hr' he
          · rename_i hb
            rw [if_neg (fun e => by rw [e] at hb; rw [Nat.beq_refl] at hb; cases hb)]
            exact hk (.exit id') _ _ _ _ _ hk' hr' he
      | cond c x y =>
        simp only [exec] at h
        have hev := ev_R hr c
        split at h
        · rename_i hc
          have hv := bool_val (.inl hc) hev
          exact wpJ_cond_true hv (ih (.run x) _ _ _ h B w0 env a w Q hr hk)
        · rename_i hc
          have hv := bool_val (.inl hc) hev
          exact wpJ_cond_false hv (ih (.run y) _ _ _ h B w0 env a w Q hr hk)
        · rename_i t hc
          have hv := bool_val (.inr hc) hev
          refine wpJ_cond hv ?_
          split at h
          · rename_i ps tm' mem' hmc
            obtain ⟨h1, h2⟩ := needs_sat h
            unfold mergeC at hmc
            split at hmc
            · split at hmc
              · rename_i ops _
                obtain ⟨q1, q2⟩ := merge_sound hC (Option.some.inj hmc) (allP_imp h1) hr (fun env' a' w' hr' hx => hk .normal _ _ _ _ _ h2 hr' hx)
                cases t with
                | true => exact q1 rfl
                | false => exact wpJ_skip (q2 rfl)
              · cases hmc
            · cases hmc
          · exact h.elim
          · cases t with
            | true => exact ih (.run x) _ _ _ (h.1 rfl) B w0 env a w Q hr hk
            | false => exact ih (.run y) _ _ _ (h.2 rfl) B w0 env a w Q hr hk
        · exact h.elim
      | region id ops draw =>
        cases draw with
        | false =>
          simp only [exec] at h
          obtain ⟨tm1, hr, h⟩ := splitAt_sat hr h
          exact wpJ_region_list (runOps_sound hC (callWith_ok hC ih) _ _ _ _ h B w0 env a w Q hr hk)
        | true =>
          simp only [exec] at h
          obtain ⟨tm1, hr, h⟩ := splitAt_sat hr h
          split at h
          · split at h
            · rename_i pl hpl
              unfold partsAt at hpl
              split at hpl
              · rename_i hnb
                rw [Bool.and_eq_true] at hnb
                refine wpJ_mono (Q := fun e a w => (∀ c, e ≠ .panic c) ∧ Stb C.J Q e a w) (wpJ_region_any hC.mixed fun w1 h1 => float_any hnb.1 (fun c a w q => q.1 c rfl) (fun a w w1 h1 q => ⟨q.1, fun w2 h2 => q.2 w2 (C.J.trans _ _ _ h1 h2)⟩) ?_) (fun e a w q => q.2 w (C.J.refl w))
                have := segRun_sound hC (callWith_ok hC ih) hnb.2 _ 0 pl hpl tm1 _ _ h env a { w1 with drawn := w1.drawn + 1 } (fun e a w => (∀ c, e ≠ .panic c) ∧ Stb C.J Q e a w) ⟨(hr.rely h1).size, (hr.rely h1).tmp, (hr.rely h1).defers, (hr.rely h1).mem.drew⟩ fun e tm2 mem2 env2 a2 w2 p1 p2 p3 => by
                  have hsat : (∀ c, e.conc ≠ .panic c) ∧ (k e tm2 mem2).sat K := by
                    cases e <;> first | exact p1.elim | exact ⟨fun c e => (by cases e), p1⟩
                  exact ⟨hsat.1, fun w3 h3 => hk e _ _ _ _ _ hsat.2 (p2.rely h3) p3⟩
                rw [firstsA_zero] at this
                exact this
              · cases hpl
            · exact h.elim
          split at h
          · rename_i ops' hd fl hh
            refine wpJ_mono (Q := fun e a w => (fl = true → ∀ c, e ≠ .panic c) ∧ Stb C.J Q e a w) (open_headAt hC hh (Q := fun e a w => (fl = true → ∀ c, e ≠ .panic c) ∧ Stb C.J Q e a w) (fun hf c a w q => q.1 hf c rfl) (fun a w w1 h1 q => ⟨q.1, fun w2 h2 => q.2 w2 (C.J.trans _ _ _ h1 h2)⟩) hr h ?_) (fun e a w q => q.2 w (C.J.refl w))
            intro tm' mem' env' a' w' q1 q2 q3
            refine runOps_sound hC (callWith_ok hC ih) _ _ _ _ q1 B w0 env' a' w' _ q2 (fun e tm2 mem2 env2 a2 w2 p1 p2 p3 => ?_)
            have hsat : (fl = true → ∀ c, e.conc ≠ .panic c) ∧ (k e tm2 mem2).sat K := by
              cases fl with
              | false => exact ⟨(fun e => by cases e), p1⟩
              | true => cases e <;> first | exact p1.elim | exact ⟨fun _ c e => (by cases e), p1⟩
            exact ⟨hsat.1, fun w3 h3 => hk e _ _ _ _ _ hsat.2 (p2.rely h3) (q3.trans p3)⟩
          · exact h.elim
      | rangeFunc f params assign body =>
        simp only [exec] at h
        split at h
        · rename_i g caps hg
          exact range_sound hC ih hr hg h hk
        · exact h.elim
      | refuse why => exact h.elim

end

/-- A function's contract, off its abstract run. -/
theorem callA_ends {C : Cfg} (hC : COk C) {tell : Bool} {n g : Nat} {fn : Func} (hfn : FnOk C.P g fn) {args : List AV} {mem : Mem} {K : AV → Mem → Prop} (h : (callA C tell n fn args mem).sat K)
    {B : Nat → Prop} {w0 w : World} {env : Nat → Nat} {vals : List Value} (hm : MR C B w0 env mem w) (ha : All2 (AV.R env mem.n) args vals) :
    CallsL C.J g vals.toArray w fun e w' => ∃ v, e = .returned v ∧ ∃ r mem' env', K r (keepMem tell mem') ∧ MR C B w0 env' mem' w' ∧ Ext env mem.n env' mem'.n ∧ r.R env' mem'.n v := by
  unfold callA at h
  split at h
  · rename_i c hb hlen
    refine (body_calls hC (exec_ok hC n) hfn hb (of_decide_eq_true hlen) h (S := fun v w' => ∃ r mem' env', K r (keepMem tell mem') ∧ MR C B w0 env' mem' w' ∧ Ext env mem.n env' mem'.n ∧ r.R env' mem'.n v) (Sp := fun _ _ => False) hm ha
      (fun r mem' env' v w' q1 q2 q3 q4 => ⟨r, mem', env', q1, q2, q3, q4⟩) (fun v mem' env' w' q _ _ => q)).mono fun e w' he => ?_
    rcases he with ⟨v, rfl, hs⟩ | ⟨v, _, hf⟩
    · exact ⟨v, rfl, hs⟩
    · exact hf.elim
  · exact h.elim
theorem callA_calls {C : Cfg} (hC : COk C) {tell : Bool} {n g : Nat} {fn : Func} (hfn : FnOk C.P g fn) {args : List AV} {mem : Mem} {K : AV → Mem → Prop} (h : (callA C tell n fn args mem).sat K)
    {B : Nat → Prop} {w0 w : World} {env : Nat → Nat} {vals : List Value} (hm : MR C B w0 env mem w) (ha : All2 (AV.R env mem.n) args vals) :
    CallsJ C.J g vals.toArray w fun e w' => ∃ v, e = .returned v ∧ ∃ r mem' env', K r (keepMem tell mem') ∧ MR C B w0 env' mem' w' ∧ Ext env mem.n env' mem'.n ∧ r.R env' mem'.n v := (callA_ends hC hfn h hm ha).calls

end Go.Ax
