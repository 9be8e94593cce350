import Derived.Test.YtmiongjabbpmkaaDoorZ3
import Derived.ProofKit
import Derived.OpenShut
import Derived.Lib.LaidTab
import Derived.LaidMore
import Derived.Stop.LaidErr
import Derived.Stop.Joined
import Derived.ChangeSlices
namespace Go.Ax
open Go Go.RowKit
def TaskWp {P : Program} (J : Judg P) : Task → (Exit → Act → World → Prop) → Act → World → Prop
  | .run c, Q, a, w => wpJ J c Q a w
  | .again c, Q, a, w => InLoopJ J c Q a w
  | .within rest body, Q, a, w => InScopeJ J body rest Q a w
section
variable {C : Cfg} {B : Nat → Prop} {w0 w : World} {env : Nat → Nat} {mem : Mem} {K : AV → Mem → Prop}
theorem splits_sat {k : IntKind} {e : Int} {t : Nat} {tm : TM} {go : TM → Out} : ∀ {vs : List Int}, (splits k e t tm go vs).sat K → ∃ v, e = v ∧ (go (tm.set t (.one (.li k v)))).sat K
  | [], h => h.elim
  | v :: vs, h => by
    by_cases he : e = v
    · exact ⟨v, he, h.1 (decide_eq_true he)⟩
    · exact splits_sat (h.2 (decide_eq_false he))
theorem splitAt_sat {id : Nat} {tm : TM} {a : Act} {go : TM → Out} (hr : Rel C B w0 env tm mem a w) (h : (splitAt C id tm go).sat K) : ∃ tm', Rel C B w0 env tm' mem a w ∧ (go tm').sat K := by
  unfold splitAt at h
  split at h
  · exact ⟨tm, hr, h⟩
  · rename_i t vs _
    split at h
    · rename_i k e ht
      obtain ⟨v, rfl, h'⟩ := splits_sat h
      refine ⟨_, ⟨hr.size.trans (set_sz _ _ _).symm, fun u => ?_, by rw [set_df]; exact hr.defers, hr.mem⟩, h'⟩
      unfold TM.set
      split
      · simp only [TM.get]
        by_cases hu : t = u
        · subst hu
          cases hq : (tm.t.set t (.one (.li k e))).get t with
          | none => trivial
          | some y =>
            rw [Tr.get_set_eq _ _ _ _ hq]
            have := hr.tmp t
            rw [ht] at this
            exact this
        · rw [Tr.get_set_ne _ _ _ _ hu]; exact hr.tmp u
      · exact hr.tmp u
    · exact ⟨tm, hr, h⟩
theorem loadAt_pointer {P : Program} {t : TypeId} {vx z : Value} {w w' : World} (h : (Instr.loadAt t vx).run P w = .ok z w') : ∃ a, vx = .pointer (some a) ∧ (loadVar t a).run P w = .ok z w' := by
  cases vx with
  | pointer p =>
    cases p with
    | some a => exact ⟨a, rfl, by simpa [Instr.loadAt, Instr.sureAddr] using h⟩
    | none => simp [Instr.loadAt, Instr.sureAddr] at h
  | _ => simp [Instr.loadAt, Instr.sureAddr] at h
def resV (tmps : Array Value) (r : ResultVar) : Sem Value :=
  match r with
  | .tmp t => pure (tmps.getD t undef)
  | .cell a t => do loadVar t (← asAddr (tmps.getD a undef))
theorem results_eq (fn : Func) (tmps : Array Value) : results fn tmps = (do let vs ← fn.results.mapM (resV tmps); pure (if h : vs.size = 1 then vs[0] else .tuple vs)) := by
  have : (fun r : ResultVar => (match r with | .tmp t => pure (tmps.getD t undef) | .cell a t => do loadVar t (← asAddr (tmps.getD a undef)) : Sem Value)) = resV tmps := by
    funext r
    cases r <;> rfl
  unfold results
  rw [← this]
  rfl
theorem resA_sound {tm : TM} {a : Act} {r : ResultVar} {v : AV} (hr : Rel C B w0 env tm mem a w) (h : resA C.P mem tm r = some v) :
    RunV C.P w env mem.n (resV a.tmps r) v := by
  cases r with
  | tmp t => cases h; exact ⟨_, rfl, hr.tmp t⟩
  | cell p t =>
    simp only [resA] at h
    split at h
    · rename_i v' hl
      cases h
      obtain ⟨z, hz, hR⟩ := loadA_sound hr.mem hl trivial (hr.tmp p)
      obtain ⟨x, hx, hz'⟩ := loadAt_pointer hz
      exact ⟨z, by simp only [resV, hx, asAddr, Sem.run_bind, Sem.run_pure, Result.andThen_ok, hz'], hR⟩
    · cases h
theorem tv_R {m : Nat} {x : AV} {t : TV} {v : Value} (h : x.tv = some t) (hx : x.R env m v) : t.R env m v := by
  cases x with
  | one s => cases h; exact hx
  | agg l => cases h; exact hx
  | tup l => cases h
theorem resL_sound {tm : TM} {a : Act} (hr : Rel C B w0 env tm mem a w) : ∀ {rs : List ResultVar} {l : List TV}, resL C.P mem tm rs = some l →
    ∃ vs : List Value, (rs.mapM (resV a.tmps)).run C.P w = .ok vs w ∧ All2 (TV.R env mem.n) l vs
  | [], l, h => by cases h; exact ⟨[], by simp, trivial⟩
  | r :: rs, l, h => by
    simp only [resL] at h
    split at h
    · rename_i v l' hv hl
      cases h
      obtain ⟨x, hx, ht⟩ := Option.bind_eq_some_iff.1 hv
      obtain ⟨z, hz, hR⟩ := resA_sound hr hx
      obtain ⟨vs, h1, h2⟩ := resL_sound hr hl
      refine ⟨z :: vs, ?_, tv_R ht hR, h2⟩
      rw [List.mapM_cons]
      simp only [Sem.run_bind, hz, Result.andThen_ok, h1, Sem.run_pure]
    · cases h
theorem resultsA_sound {fn : Func} {tm : TM} {a : Act} {v : AV} (hr : Rel C B w0 env tm mem a w) (h : resultsA C.P mem tm fn.results.toList = some v) : RunV C.P w env mem.n (results fn a.tmps) v := by
  have hmap : ∀ vs : List Value, (fn.results.toList.mapM (resV a.tmps)).run C.P w = .ok vs w →
      (results fn a.tmps).run C.P w = .ok (if h : vs.toArray.size = 1 then vs.toArray[0] else .tuple vs.toArray) w := fun vs hvs => by
    rw [results_eq, ← Array.toArray_toList (xs := fn.results), List.mapM_toArray, Sem.run_bind, Sem.run_map, hvs]
    rfl
  unfold resultsA at h
  split at h
  · rename_i r hrs
    obtain ⟨z, hz, hR⟩ := resA_sound hr h
    refine ⟨z, ?_, hR⟩
    have := hmap [z] (by
      rw [hrs, List.mapM_cons]
      simp [hz])
    simpa using this
  · rename_i rs hne
    split at h
    · rename_i l hl
      cases h
      obtain ⟨vs, h1, h2⟩ := resL_sound hr hl
      have hlen : ∀ {rs : List ResultVar} {l : List TV}, resL C.P mem tm rs = some l → l.length = rs.length := by
        intro rs
        induction rs with
        | nil => intro l h; cases h; rfl
        | cons r rs ih =>
          intro l h
          simp only [resL] at h
          split at h
          · rename_i _ l' _ hl'; cases h; simp [ih hl']
          · cases h
      have hsz : vs.toArray.size ≠ 1 := by
        have e1 := hlen hl
        have e2 := h2.length
        simp only [List.size_toArray]
        intro e
        have : fn.results.toList.length = 1 := by omega
        match hq : fn.results.toList, this with
        | [r], _ => exact hne r hq
      refine ⟨_, hmap vs h1, ?_⟩
      rw [dif_neg hsz]
      exact ⟨vs, rfl, h2⟩
    · cases h
theorem enter_R (hm : MR C B w0 env mem w) {args : List AV} {vals : List Value} {n : Nat} (ha : All2 (AV.R env mem.n) args vals) (hn : args.length ≤ n) :
    Rel C B w0 env (TM.enter n args) mem { tmps := vals.toArray ++ Array.replicate (n - vals.toArray.size) undef, defers := [] } w := by
  have hl := ha.length
  refine ⟨by simp [TM.enter]; omega, fun t => ?_, Dfs.nil, hm⟩
  have key : ∀ (l : List AV) (us : List Value) (i : Nat) (tr : Tr AV), All2 (AV.R env mem.n) l us →
      (∀ t x, tr.get t = some x → x.R env mem.n ((vals.toArray ++ Array.replicate (n - vals.toArray.size) undef).getD t undef)) →
      (∀ j v, us[j]? = some v → (vals.toArray ++ Array.replicate (n - vals.toArray.size) undef).getD (i + j) undef = v) →
      ∀ t x, (Tr.ofList tr i l).get t = some x → x.R env mem.n ((vals.toArray ++ Array.replicate (n - vals.toArray.size) undef).getD t undef) := by
    intro l
    induction l with
    | nil => intro us i tr _ h _ t x hx; exact h t x hx
    | cons y l ih =>
      intro us i tr hus h hv t x hx
      cases us with
      | nil => exact hus.elim
      | cons u us =>
        refine ih us (i + 1) (tr.set i y) hus.2 (fun t x hx => ?_) (fun j v hj => by have := hv (j + 1) v (by simpa using hj); simpa [Nat.add_assoc, Nat.add_comm 1 j] using this) t x hx
        by_cases hit : i = t
        · subst hit
          rw [Tr.get_set_eq _ _ _ _ hx]
          have := hv 0 u rfl
          simp only [Nat.add_zero] at this
          rw [this]
          exact hus.1
        · rw [Tr.get_set_ne _ _ _ _ hit] at hx
          exact h t x hx
  simp only [TM.get, TM.enter]
  cases hg : (Tr.ofList (Tr.mk 10) 0 args).get t with
  | none => trivial
  | some x =>
    refine key args vals 0 (Tr.mk 10) ha (fun t x hx => by rw [Tr.get_mk] at hx; cases hx) (fun j v hj => ?_) t x hg
    have hlt : j < vals.length := (List.getElem?_eq_some_iff.1 hj).1
    have hj' : vals[j] = v := by rw [List.getElem?_eq_getElem hlt] at hj; exact Option.some.inj hj
    simp [Array.getElem?_append, hlt, hj']
end
end Go.Ax

namespace Go.Ax
open Go Go.RowKit
theorem eqBs_iff : ∀ {l m : List Bool}, eqBs l m = true → l = m
  | [], [], _ => rfl
  | a :: l, b :: m, h => by
    simp only [eqBs, Bool.and_eq_true] at h
    rw [eqBs_iff h.2]
    cases a <;> cases b <;> simp_all
  | [], _ :: _, h => by cases h
  | _ :: _, [], h => by cases h
section
variable {C : Cfg} {B : Nat → Prop} {w0 w : World} {env : Nat → Nat} {tm : TM} {mem : Mem}
theorem stepO_sound (hC : COk C) {o : Oper} {tm' : TM} {mem' : Mem} {a : Act} {Kn : Act → World → Prop} {Q : Exit → Act → World → Prop} (h : stepO C o tm mem = some (tm', mem')) (hr : Rel C B w0 env tm mem a w)
    (hk : ∀ env' a' w', Rel C B w0 env' tm' mem' a' w' → Ext env mem.n env' mem'.n → Kn a' w') : o.guard = none ∧ opJ C.J o a w Kn Q := by
  unfold stepO at h
  split at h
  · rename_i hg hfine
    refine ⟨hg, ?_⟩
    split at h
    · rename_i v hp
      cases h
      refine ⟨fun hl => pure_ns hC hr hfine hp hl, fun w1 hw1 => ?_⟩
      have hr := hr.rely hw1
      obtain ⟨val, hv, hR⟩ := pureOp_sound hC.exs hr hp trivial
      rw [hv]
      exact hk env _ w1 (hr.put hr.mem (Ext.refl _ _) hR) (Ext.refl _ _)
    · cases h
    · split at h
      · rename_i v m hp
        cases h
        refine ⟨fun hl => opFine_ns hr hfine (memOp_callV hp) hl hC.lvl, fun w1 hw1 => ?_⟩
        have hr := hr.rely hw1
        obtain ⟨nx, val, w', env', hv, hnx, hm, hx, hR⟩ := memOp_sound hr hp trivial
        rw [hv]
        have hgo := hk env' _ w' (hr.put (d := o.dst) hm hx hR) hx
        rcases hnx with rfl | ⟨rfl, rfl⟩
        · exact hgo
        · exact hgo
      · cases h
  · cases h
theorem allD_first {ops : Array Oper} : List.replicate ops.size false ∈ allD ops := by
  unfold allD
  cases ops.size with
  | zero => simp [reachD]
  | succ n => simp [reachD]
theorem all_any (hC : COk C) {ops : Array Oper} (hcf : Confl C ops tm mem) {Q : Exit → Act → World → Prop}
    (hQ : ∀ s env' a' w', goA C ops.toList (List.replicate ops.size true) tm mem = some s → Rel C B w0 env' s.1 s.2 a' w' → Ext env mem.n env' s.2.n → Q .normal a' w') :
    ∀ (n : Nat) (D : List Bool) (s : TM × Mem) (env' : Nat → Nat) (a : Act) (w : World), D ∈ allD ops → D.length = ops.size → D.count false ≤ n → goA C ops.toList D tm mem = some s → Rel C B w0 env' s.1 s.2 a w → Ext env mem.n env' s.2.n → wpAnyJ C.J .any ops Q n D.toArray a w := by
  obtain ⟨hcl, heq⟩ := hcf
  simp only [closedD, Bool.and_eq_true, List.all_eq_true] at hcl
  obtain ⟨⟨hc1, hc2⟩, hsome⟩ := hcl
  have fin : ∀ (D : List Bool) (s : TM × Mem) (env' : Nat → Nat) (a : Act) (w : World), D ∈ allD ops → D.length = ops.size → goA C ops.toList D tm mem = some s → Rel C B w0 env' s.1 s.2 a w → Ext env mem.n env' s.2.n → Region.ready .any ops D.toArray = [] → Q .normal a w := fun D s env' a w hD hl hs hr hx he => by
    have h2 := hc2 D hD
    rw [he] at h2
    have h2 : ∀ x ∈ D, x = true := by simpa using h2
    have : D = List.replicate ops.size true := List.eq_replicate_iff.2 ⟨hl, h2⟩
    subst this
    exact hQ s env' a w hs hr hx
  intro n
  induction n with
  | zero =>
    intro D s env' a w hD hl hn hs hr hx
    have he : Region.ready .any ops D.toArray = [] := by
      refine List.eq_nil_iff_forall_not_mem.2 fun i hi => ?_
      have h1 := (mem_ready.1 hi).1
      have : false ∈ D := by
        rw [Array.getD_eq_getD_getElem?] at h1
        cases hq : D.toArray[i]? with
        | none => rw [hq] at h1; cases h1
        | some b =>
          rw [hq] at h1
          simp at h1 hq
          subst h1
          exact List.mem_of_getElem? hq
      have := List.count_pos_iff.2 this
      omega
    exact ⟨he, fin D s env' a w hD hl hs hr hx he⟩
  | succ n ih =>
    intro D s env' a w hD hl hn hs hr hx
    refine ⟨fun he => fin D s env' a w hD hl hs hr hx he, fun i hi => ?_⟩
    have hp : (D, i) ∈ pairsD ops := List.mem_flatMap.2 ⟨D, hD, List.mem_map.2 ⟨i, hi, rfl⟩⟩
    have h1 := (mem_ready.1 hi).1
    have hun : D[i]? = some false := by
      rw [Array.getD_eq_getD_getElem?] at h1
      cases hq : D.toArray[i]? with
      | none => rw [hq] at h1; cases h1
      | some b => rw [hq] at h1; simp at h1 hq; subst h1; exact hq
    have hstep := List.map_inj_left.1 heq (D, i) hp
    dsimp only at hstep
    rw [hs, Option.bind_some] at hstep
    have hsm := hsome (D, i) hp
    obtain ⟨s', hs'⟩ := Option.isSome_iff_exists.1 hsm
    dsimp only at hs'
    rw [hs'] at hstep
    obtain ⟨o, ho, hst⟩ := Option.bind_eq_some_iff.1 hstep
    have hin : D.set i true ∈ allD ops := by
      obtain ⟨E, hE, he⟩ := List.any_eq_true.1 (hc1 (D, i) hp)
      rw [eqBs_iff he]; exact hE
    have hlt : i < D.length := (List.getElem?_eq_some_iff.1 hun).1
    have hcnt : (D.set i true).count false ≤ n := by
      have hi' : D[i] = false := (List.getElem?_eq_some_iff.1 hun).2
      have := List.count_set (l := D) (i := i) (a := true) (b := false) hlt
      rw [hi'] at this
      simp at this
      have hpos : 0 < D.count false := List.count_pos_iff.2 (List.mem_of_getElem? hun)
      omega
    have hopj := stepO_sound hC (Q := Q) (Kn := wpAnyJ C.J .any ops Q n (D.set i true).toArray) hst hr fun env2 a2 w2 q1 q2 => ih (D.set i true) s' env2 a2 w2 hin (by simpa using hl) hcnt hs' q1 (hx.trans q2)
    unfold wpOpJ
    simp only [ho]
    have hw : Region.wanted o (yielded ops a.tmps) = true := by unfold Region.wanted; rw [hopj.1]
    rw [if_pos hw]
    have e : D.toArray.setIfInBounds i true = (D.set i true).toArray := by simp
    rw [e]
    exact hopj.2
theorem all_region (hC : COk C) {ops : Array Oper} {id : Nat} (hcf : Confl C ops tm mem) {s : TM × Mem} (hs : goA C ops.toList (List.replicate ops.size true) tm mem = some s) {a : Act} {Q : Exit → Act → World → Prop} (hr : Rel C B w0 env tm mem a w)
    (hQ : ∀ env' a' w', Rel C B w0 env' s.1 s.2 a' w' → Ext env mem.n env' s.2.n → Q .normal a' w') : wpJ C.J (.region id ops true) Q a w := by
  refine wpJ_region_any hC.mixed fun w1 h1 => ?_
  have hr1 := hr.rely h1
  have h := all_any (w0 := w0) (B := B) (env := env) hC hcf (Q := Q) (fun s' env' a' w' e q1 q2 => by rw [hs] at e; cases e; exact hQ env' a' w' q1 q2) ops.size (List.replicate ops.size false) (tm, mem) env a { w1 with drawn := w1.drawn + 1 } allD_first (by simp) (by simp) ?_ ⟨hr1.size, hr1.tmp, hr1.defers, hr1.mem.drew⟩ (Ext.refl _ _)
  · rw [show (List.replicate ops.size false).toArray = Array.replicate ops.size false by simp] at h
    exact h
  · have key : ∀ (l : List Oper) (n : Nat), goA C l (List.replicate n false) tm mem = some (tm, mem) := by
      intro l
      induction l with
      | nil => intro n; cases n <;> rfl
      | cons o l ih => intro n; cases n with
        | zero => rfl
        | succ n => exact ih n
    exact key _ _
end
end Go.Ax

namespace Go.Ax
open Go Go.RowKit
section
variable {C : Cfg} {K : AV → Mem → Prop}
def ExecOk (C : Cfg) (K : AV → Mem → Prop) (n : Nat) : Prop :=
  ∀ task tm mem k, (exec C n task tm mem k).sat K → ∀ B w0 env a w (Q : Exit → Act → World → Prop), Rel C B w0 env tm mem a w →
    (∀ ae tm' mem' env' a' w', (k ae tm' mem').sat K → Rel C B w0 env' tm' mem' a' w' → Ext env mem.n env' mem'.n → Q ae.conc a' w') → TaskWp C.J task Q a w
theorem MR.putObj {B : Nat → Prop} {w0 w : World} {env : Nat → Nat} {mem : Mem} {b : Nat} {x : LO} {ab' : AB} {o' : Obj} (h : MR C B w0 env mem w) (hg : mem.get b = some (.ob x)) (hb : ab'.R env mem.n B (w.putObj (env b) o') (env b)) :
    MR C B w0 env (mem.set b ab') (w.putObj (env b) o') :=
  MR.turn h hg rfl (fun _ hj => World.putObj_heap_other hj) World.putObj_size rfl rfl rfl hb
theorem DefJ.mono {P : Program} {J : Judg P} {g : FuncId} {args : Array Value} {pv : Option Value} {w : World} {R R' : World → Prop} (h : DefJ J g args pv w R) (hr : ∀ w', R w' → R' w') : DefJ J g args pv w R' :=
  fun fr cs S hS hm hR => h fr cs S hS hm fun w' q => hR w' (hr w' q)
theorem Dfs.ext' {env env' : Nat → Nat} {m m' : Nat} (hx : Ext env m env' m') {df : List DE} {ds : List Deferred} (h : All2 (DE.is env m) df ds) : Dfs env' m' df ds := Dfs.ext hx h
theorem shutA_sound (hC : COk C) {B : Nat → Prop} {w0 : World} {fn : Func} {tmps : Array Value} {R : Ending → World → Prop} : ∀ (df : List DE) (ds : List Deferred) (pv : Option Value) (mem : Mem) (env : Nat → Nat) (w : World) (k : Option Value → Mem → Out), (shutA C df pv mem k).sat K →
    MR C B w0 env mem w → Dfs env mem.n df ds → (∀ pv' mem' env' w', (k pv' mem').sat K → MR C B w0 env' mem' w' → Ext env mem.n env' mem'.n → leavesJ C.J fn tmps R [] pv' w') → leavesJ C.J fn tmps R ds pv w
  | [], [], pv, mem, env, w, k, h, hm, _, H => H pv mem env w h hm (Ext.refl _ _)
  | [], _ :: _, _, _, _, _, _, _, _, hd, _ => hd.elim
  | _ :: _, [], _, _, _, _, _, _, _, hd, _ => hd.elim
  | .mark d :: df, x :: ds, pv, mem, env, w, k, h, hm, hd, H => by
    obtain ⟨⟨rfl, hdn⟩, hds⟩ := hd
    unfold shutA at h
    split at h
    · rename_i hg
      have hblk := hm.blk d _ hg
      refine .inl ⟨env d, rfl, fun w1 h1 => ?_⟩
      obtain ⟨o, ho, rfl, hB⟩ := (hm.rely h1).blk d _ hg
      refine ⟨ho, shutA_sound hC df ds pv _ env _ k h ((hm.rely h1).putObj hg trivial) hds H⟩
    · exact h.elim
  | .call g args :: df, x :: ds, pv, mem, env, w, k, h, hm, hd, H => by
    obtain ⟨⟨caps, vals, rfl, ha⟩, hds⟩ := hd
    unfold shutA at h
    split at h
    · rename_i F hF
      split at h
      · rename_i ps mem' hp
        obtain ⟨h1, h2⟩ := needs_sat h
        obtain ⟨⟨gn, hgn, hgb⟩, hsum⟩ := hC.dcs _ (assoc_mem hF)
        refine .inr ⟨g, gn, caps.toArray, vals.toArray, rfl, hgn.1, hgn.2, hgb, fun w1 hw1 => ?_⟩
        have := hsum pv args mem mem' ps hp h1 B w0 w1 env (vals ++ caps) (hm.rely hw1) ha
        rw [show (vals ++ caps).toArray = vals.toArray ++ caps.toArray by simp] at this
        refine this.mono fun w' ⟨env', hm', hx⟩ => ?_
        exact shutA_sound hC df ds none mem' env' w' k h2 hm' (Dfs.ext' hx hds) fun pv2 mem2 env2 w2 q1 q2 q3 => H pv2 mem2 env2 w2 q1 q2 (hx.trans q3)
      · exact h.elim
    · exact h.elim
  | .raw _ :: _, _ :: _, _, _, _, _, _, h, _, _, _ => h.elim
theorem leaveA_sound (hC : COk C) {B : Nat → Prop} {w0 w : World} {env : Nat → Nat} {tm : TM} {mem : Mem} {a : Act} {fn : Func} {e : AE} {k : AV → Mem → Out} {kp : Value → Mem → Out} {S Sp : Value → World → Prop} (h : (leaveA C fn k kp e tm mem).sat K) (hr : Rel C B w0 env tm mem a w)
    (hS : ∀ r mem' env' v w', (k r mem').sat K → MR C B w0 env' mem' w' → Ext env mem.n env' mem'.n → r.R env' mem'.n v → S v w')
    (hSp : ∀ v mem' env' w', (kp v mem').sat K → MR C B w0 env' mem' w' → Ext env mem.n env' mem'.n → Sp v w') : bodyPostJ C.J fn (CE S Sp) e.conc a w := by
  unfold leaveA at h
  split at h
  · rename_i pv hpv
    have key : leavesJ C.J fn a.tmps (CE S Sp) a.defers pv w := by
      refine shutA_sound hC tm.df a.defers pv mem env w _ h hr.mem hr.defers fun pv' mem' env' w' hk hm hx => ?_
      cases pv' with
      | none =>
        intro w1 h1
        dsimp only at hk
        split at hk
        · rename_i r hres
          obtain ⟨v, hv, hR⟩ := resultsA_sound (a := a) ⟨hr.size, fun t => AV.R_ext hx (hr.tmp t), hr.defers.ext hx, hm.rely h1⟩ hres
          exact ⟨v, hv, .inl ⟨v, rfl, hS r mem' env' v w1 hk (hm.rely h1) hx hR⟩⟩
        · exact hk.elim
      | some v => exact .inr ⟨v, rfl, hSp v mem' env' w' hk hm hx⟩
    cases e with
    | normal => cases hpv; exact key
    | ret => cases hpv; exact key
    | panic v => cases hpv; exact ⟨v, rfl, key⟩
    | exit id => cases hpv
    | goto l => cases hpv
  · exact h.elim
theorem body_calls (hC : COk C) {n : Nat} (hx : ExecOk C K n) {g : Nat} {fn : Func} {c : Code} (hfn : FnOk C.P g fn) (hb : fn.body = some c) {args : List AV} {mem : Mem} {k : AV → Mem → Out} {kp : Value → Mem → Out} (hlen : args.length ≤ fn.ntmps)
    (h : (exec C n (.run c) (TM.enter fn.ntmps args) mem (leaveA C fn k kp)).sat K) {B : Nat → Prop} {w0 w : World} {env : Nat → Nat} {vals : List Value} {S Sp : Value → World → Prop} (hm : MR C B w0 env mem w) (ha : All2 (AV.R env mem.n) args vals)
    (hS : ∀ r mem' env' v w', (k r mem').sat K → MR C B w0 env' mem' w' → Ext env mem.n env' mem'.n → r.R env' mem'.n v → S v w')
    (hSp : ∀ v mem' env' w', (kp v mem').sat K → MR C B w0 env' mem' w' → Ext env mem.n env' mem'.n → Sp v w') :
    CallsL C.J g vals.toArray w (CE S Sp) := by
  refine callsL_of_wp hfn.1 hb ?_
  refine hx _ _ _ _ h B w0 env _ w _ (enter_R hm ha hlen) ?_
  intro ae tm' mem' env' a' w' hk hr he
  exact leaveA_sound hC hk hr (fun r m2 env2 v w2 q1 q2 q3 q4 => hS r m2 env2 v w2 q1 q2 (he.trans q3) q4) (fun v m2 env2 w2 q1 q2 q3 => hSp v m2 env2 w2 q1 q2 (he.trans q3))
theorem sets_R {env : Nat → Nat} {m : Nat} : ∀ {ps : List Tmp} {args : List AV} {vals : List Value} {tm : TM} {tmps : Array Value}, All2 (AV.R env m) args vals → tmps.size = tm.sz → (∀ t, (tm.get t).R env m (tmps.getD t undef)) →
    ((ps.zip vals).foldl (fun tmps p => tmps.setIfInBounds p.1 p.2) tmps).size = (setsA (ps.zip args) tm).sz ∧ ∀ t, ((setsA (ps.zip args) tm).get t).R env m (((ps.zip vals).foldl (fun tmps p => tmps.setIfInBounds p.1 p.2) tmps).getD t undef)
  | [], _, _, _, _, _, hs, ht => ⟨hs, ht⟩
  | p :: ps, [], [], _, _, _, hs, ht => ⟨hs, ht⟩
  | _ :: _, [], _ :: _, _, _, h, _, _ => h.elim
  | _ :: _, _ :: _, [], _, _, h, _, _ => h.elim
  | p :: ps, x :: args, v :: vals, tm, tmps, h, hs, ht => by
    simp only [List.zip_cons_cons, List.foldl_cons, setsA]
    refine sets_R (ps := ps) h.2 (by rw [set_sz]; simpa using hs) fun t => ?_
    unfold TM.set
    split
    · rename_i hb
      have hlt : p < tmps.size := by rw [hs]; exact Nat.le_of_ble_eq_true hb
      simp only [TM.get]
      by_cases hpt : p = t
      · subst hpt
        have e : (tmps.setIfInBounds p v).getD p undef = v := by simp [hlt]
        rw [e]
        cases hg : (tm.t.set p x).get p with
        | none => trivial
        | some y => rw [Tr.get_set_eq _ _ _ _ hg]; exact h.1
      · rw [Tr.get_set_ne _ _ _ _ hpt]
        have e : (tmps.setIfInBounds p v).getD t undef = tmps.getD t undef := by simp [Array.getElem?_setIfInBounds_ne hpt]
        rw [e]; exact ht t
    · rename_i hb
      have hge : ¬ p < tmps.size := fun hlt => by
        have : Nat.blt p tm.sz = true := Nat.ble_eq_true_of_le (by rw [← hs]; exact hlt)
        rw [this] at hb; cases hb
      have e : tmps.setIfInBounds p v = tmps := by
        unfold Array.setIfInBounds
        rw [dif_neg hge]
      rw [e]; exact ht t
theorem setsA_df : ∀ {l : List (Tmp × AV)} {tm : TM}, (setsA l tm).df = tm.df
  | [], _ => rfl
  | _p :: l, _tm => (setsA_df (l := l)).trans (set_df _ _ _)
theorem roundA_sound {n : Nat} (hx : ExecOk C K n) {l : Nat} {args : List AV} {mem : Mem} {k : AV → Mem → Out} (h : (roundA (fun c => exec C n (.run c)) l args mem k).sat K) {B : Nat → Prop} {w0 w : World} {env : Nat → Nat} {vals : List Value} {S Sp : Value → World → Prop}
    (hm : MR C B w0 env mem w) (ha : All2 (AV.R env mem.n) args vals) (hS : ∀ r mem' env' v w', (k r mem').sat K → MR C B w0 env' mem' w' → Ext env mem.n env' mem'.n → r.R env' mem'.n v → S v w') : TgtOk C env mem w vals S Sp (.yl l) := by
  unfold roundA at h
  split at h
  · rename_i st pe tm ps as bd d hg
    split at h
    · rename_i hc
      simp only [Bool.and_eq_true] at hc
      obtain ⟨⟨hlen, has⟩, hbd⟩ := hc
      have hlen := Nat.eq_of_beq_eq_true hlen
      obtain ⟨o, ho, ⟨fid, tmps, rfl, hd, hsz, ht⟩, hnB⟩ := hm.blk l _ hg
      have hll := hm.lt l _ hg
      have hvl : vals.toArray.size = ps.size := by have := ha.length; simp; omega
      refine ⟨fid, _, as, bd, run_yield ho hvl, roundJ has hbd ?_⟩
      have hfold : ((ps.zip vals.toArray).foldl (fun tmps (t, a) => tmps.setIfInBounds t a) tmps) = (ps.toList.zip vals).foldl (fun tmps p => tmps.setIfInBounds p.1 p.2) tmps := by
        rw [← Array.foldl_toList]
        simp
      rw [hfold]
      obtain ⟨q1, q2⟩ := sets_R (ps := ps.toList) (tm := ⟨tm.sz, tm.t, []⟩) ha hsz ht
      -- a round's end
      have fin : ∀ (mem2 : Mem) (env2 : Nat → Nat) (w2 : World) (ae : AE) (tm2 : TM), (endRoundA l k ae tm2 mem2).sat K → MR C B w0 env2 mem2 w2 → Ext env mem.n env2 mem2.n →
          match ae with
          | .normal => roundEnd C.J (env l) (CE S Sp) none w2
          | .ret => roundEnd C.J (env l) (CE S Sp) (some .ret) w2
          | .exit id => roundEnd C.J (env l) (CE S Sp) (some (.exit id)) w2
          | .goto t => roundEnd C.J (env l) (CE S Sp) (some (.goto t)) w2
          | .panic _ => False := fun mem2 env2 w2 ae tm2 hk hm2 hx2 => by
        have hel : env2 l = env l := hx2.2 l hll
        unfold endRoundA at hk
        split at hk
        · rename_i st2 pe2 tmx psx asx bdx dx hg2
          have key : ∀ (jump : Option Code) (b : Bool) (st' : LoopState), st' = (if jump.isNone then .ready else .done) → b = jump.isNone → (k (.one (.lb b)) (mem2.set l (.ob (.lp st' jump tmx psx asx bdx dx)))).sat K → roundEnd C.J (env l) (CE S Sp) jump w2 := fun jump b st' hst hb hk w3 h3 => by
            have hm3 := hm2.rely h3
            obtain ⟨o2, ho2, ⟨fid2, tmps2, rfl, hd2, hsz2, ht2⟩, hnB2⟩ := hm3.blk l _ hg2
            rw [hel] at ho2
            refine ⟨_, ho2, .inl ⟨_, rfl, ?_⟩⟩
            have hlt : env2 l < w3.heap.size := by rw [hel]; exact (Array.getElem?_eq_some_iff.1 ho2).1
            have := hm3.putObj (ab' := .ob (.lp st' jump tmx psx asx bdx dx)) (o' := .loop { state := st', pending := jump, fn := fid2, tmps := tmps2, params := psx, assign := asx, body := bdx, defers := env2 dx }) hg2
              ⟨_, World.putObj_heap_same hlt, ⟨fid2, tmps2, rfl, hd2, hsz2, ht2⟩, hnB2⟩
            rw [hel] at this
            subst hst hb
            exact hS _ _ env2 _ _ hk this hx2 ⟨trivial, rfl⟩
          cases ae with
          | normal => exact key none true .ready rfl rfl hk
          | ret => exact key (some .ret) false .done rfl rfl hk
          | exit id => exact key (some (.exit id)) false .done rfl rfl hk
          | goto t => exact key (some (.goto t)) false .done rfl rfl hk
          | panic v => exact hk.elim
        · exact hk.elim
      refine hx (.run as) _ _ _ h B w0 env { tmps := _, defers := [] } w _ ⟨q1, q2, by rw [setsA_df]; exact Dfs.nil, hm⟩ ?_
      intro ae tm1 mem1 env1 a1 w1 hk1 hr1 hx1
      cases ae with
      | normal =>
        refine ⟨rfl, ?_⟩
        dsimp only at hk1
        split at hk1
        · rename_i pe1 tmx psx asx bdx dx hg1
          intro w2 h2
          have hm2 := hr1.mem.rely h2
          have hel : env1 l = env l := hx1.2 l hll
          obtain ⟨o2, ho2, ⟨fid2, tmps2, rfl, hd2, hsz2, ht2⟩, hnB2⟩ := hm2.blk l _ hg1
          rw [hel] at ho2
          refine ⟨_, ho2, rfl, ?_⟩
          have hlt : env1 l < w2.heap.size := by rw [hel]; exact (Array.getElem?_eq_some_iff.1 ho2).1
          have hm3 := hm2.putObj (ab' := .ob (.lp .busy pe1 tmx psx asx bdx dx)) (o' := .loop { state := .busy, pending := pe1, fn := fid2, tmps := tmps2, params := psx, assign := asx, body := bdx, defers := env1 dx }) hg1
            ⟨_, World.putObj_heap_same hlt, ⟨fid2, tmps2, rfl, hd2, hsz2, ht2⟩, hnB2⟩
          rw [hel] at hm3
          refine hx (.run bd) _ _ _ hk1 B w0 env1 a1 _ _ ⟨hr1.size, hr1.tmp, hr1.defers, hm3⟩ ?_
          intro ae2 tm2 mem2 env2 a2 w3 hk2 hr2 hx2
          have := fin mem2 env2 w3 ae2 tm2 hk2 hr2.mem (hx1.trans hx2)
          cases ae2 with
          | normal => exact this
          | ret => exact this
          | exit id => exact this
          | goto t => exact this
          | panic v => exact this.elim
        · exact hk1.elim
      | exit id => exact hk1.elim
      | goto t => exact hk1.elim
      | ret => exact hk1.elim
      | panic v => exact hk1.elim
    · exact h.elim
  · exact h.elim
theorem callWith_ok (hC : COk C) {n : Nat} (hx : ExecOk C K n) : CallOk C K (callWith C fun c => exec C n (.run c)) := by
  intro tgt args mem k kp h B w0 env w vals S Sp hm ha hS hSp
  cases tgt with
  | yl l => exact roundA_sound hx h hm ha hS
  | fn g =>
    unfold callWith at h
    dsimp only at h
    split at h
    · rename_i F hF
      split at h
      · rename_i ps r hp
        obtain ⟨h1, h2⟩ := needs_sat h
        have h2 := bind_sat h2
        obtain ⟨hfn, hsum⟩ := hC.fsum _ (sumF_mem hF)
        refine ⟨hfn, (hsum args mem r ps hp h1 B w0 w env vals hm.bare ha).mono ?_⟩
        rintro e w' ⟨v, he, hb, hr⟩
        obtain ⟨env', q1, q2, q3⟩ := hm.result hb hr
        exact .inl ⟨v, he, hS _ _ env' v w' h2 q1 q2 q3⟩
      · exact h.elim
    split at h
    · rename_i F hF
      split at h
      · rename_i ps r mem' hp
        obtain ⟨h1, h2⟩ := needs_sat h
        have hq : (g, F) ∈ C.qs := by
          unfold sumQ at hF
          split at hF
          · cases hF
          · exact assoc_mem hF
        obtain ⟨hfn, hsum⟩ := hC.qsum _ hq
        refine ⟨hfn, (hsum args mem r mem' ps hp h1 B w0 w env vals hm ha).mono ?_⟩
        rintro e w' ⟨v, env', he, hm', hx', hR⟩
        exact .inl ⟨v, he, hS r mem' env' v w' h2 hm' hx' hR⟩
      · exact h.elim
    split at h
    · rename_i F hF
      split at h
      · rename_i o hp
        have hq : (g, F) ∈ C.qb := by
          unfold sumB at hF
          split at hF
          · cases hF
          · exact assoc_mem hF
        obtain ⟨hfn, hsum⟩ := hC.qbs _ hq
        refine ⟨hfn, (hsum K k args mem o hp h B w0 w env vals hm ha).mono ?_⟩
        rintro e w' ⟨r, mem', v, env', he, h2, hm', hx', hR⟩
        exact .inl ⟨v, he, hS r mem' env' v w' h2 hm' hx' hR⟩
      · exact h.elim
    split at h
    · rename_i F hF
      split at h
      · rename_i ps r hp
        split at h
        · rename_i hd
          obtain ⟨h1, h2⟩ := needs_sat h
          obtain ⟨hfn, hsum⟩ := hC.ps _ (assoc_mem hF)
          refine ⟨hfn, (hsum args mem r ps hp h1 B w0 w env vals hm.bare ha).mono ?_⟩
          rintro e w' ⟨⟨v, he, hR⟩, hbl⟩
          exact .inl ⟨v, he, hS r mem env v w' h2 (hm.later hbl) (Ext.refl _ _) hR⟩
        · exact h.elim
      · exact h.elim
    · split at h
      · rename_i fn hF
        have hfn := hC.fns _ (assoc_mem hF)
        split at h
        · rename_i c hb hlen
          exact ⟨⟨fn, hfn, by rw [hb]; rfl⟩, (body_calls hC hx hfn hb (of_decide_eq_true hlen) h hm ha hS hSp).calls⟩
        · exact h.elim
      · exact h.elim
theorem loopC_spec {body bd : Code} {tm : TM} {mem : Mem} {r : Option (List Cnd × AE × TM × Mem)} (h : loopC C body tm mem = some (bd, r)) : ∃ id F, (id, bd, F) ∈ C.lp ∧ r = F tm mem := by
  unfold loopC at h
  split at h
  · cases h
  · split at h
    · rename_i id _
      split at h
      · rename_i bd' F hA
        cases h
        exact ⟨id, F, assoc_mem hA, rfl⟩
      · cases h
    · cases h
def Stb {P : Program} (J : Judg P) (Q : Exit → Act → World → Prop) : Exit → Act → World → Prop := fun e a w => ∀ w1, J.rel w w1 → Q e a w1
theorem range_sound (hC : COk C) {n : Nat} (hx : ExecOk C K n) {g : Operand} {f : Nat} {caps : List CV} {ps : Array Tmp} {as bd : Code} {tm : TM} {mem : Mem} {k : AE → TM → Mem → Out} {B : Nat → Prop} {w0 w : World} {env : Nat → Nat} {a : Act} {Q : Exit → Act → World → Prop}
    (hr : Rel C B w0 env tm mem a w) (hg : ev C tm g = .one (.fn f caps))
    (h : (callWith C (fun c => exec C n (.run c)) (.fn f) (.one (.yl (mem.n + 1)) :: caps.map CV.av) ((mem.push (.ob .df)).push (.ob (.lp .ready none ⟨tm.sz, tm.t, []⟩ ps as bd mem.n))) (endLoopA (mem.n + 1) mem.n tm k) (fun _ _ => .bad 66)).sat K)
    (hk : ∀ ae tm' mem' env' a' w', (k ae tm' mem').sat K → Rel C B w0 env' tm' mem' a' w' → Ext env mem.n env' mem'.n → Q ae.conc a' w') : wpJ C.J (.rangeFunc g ps as bd) Q a w := by
  have hev := ev_R hr g
  rw [hg] at hev
  obtain ⟨hcok, hfe⟩ := hev
  -- the two blocks
  have blocks : ∀ w1, C.J.rel w w1 → ∀ fid : FuncId, ∃ env2 : Nat → Nat, env2 mem.n = w1.heap.size ∧ env2 (mem.n + 1) = w1.heap.size + 1 ∧ Ext env mem.n env2 (mem.n + 2) ∧
      MR C B w0 env2 ((mem.push (.ob .df)).push (.ob (.lp .ready none ⟨tm.sz, tm.t, []⟩ ps as bd mem.n))) ((w1.alloc (.deferred (some []))).alloc (.loop { state := .ready, pending := none, fn := fid, tmps := a.tmps, params := ps, assign := as, body := bd, defers := w1.heap.size })) := fun w1 h1 fid => by
    have hm1 := hr.mem.rely h1
    have nB : ∀ x, w1.heap.size ≤ x → ¬ B x := fun x hx hB => by have := hm1.base x hB; omega
    have p1 := hm1.pushObj (ab := .ob .df) (o := .deferred (some [])) ⟨_, heap_alloc_new _ _, rfl, nB _ (Nat.le_refl _)⟩
    have x1 := Ext.push env mem.n w1.heap.size
    have e1 : envPush env mem.n w1.heap.size mem.n = w1.heap.size := if_pos rfl
    have hsz : (w1.alloc (.deferred (some []))).heap.size = w1.heap.size + 1 := World.size_alloc ..
    have x2 := Ext.push (envPush env mem.n w1.heap.size) (mem.n + 1) (w1.heap.size + 1)
    have p2 := p1.pushObj (ab := .ob (.lp .ready none ⟨tm.sz, tm.t, []⟩ ps as bd mem.n)) (o := .loop { state := .ready, pending := none, fn := fid, tmps := a.tmps, params := ps, assign := as, body := bd, defers := w1.heap.size })
      ⟨_, heap_alloc_new _ _, ⟨fid, a.tmps, by
          show Obj.loop _ = Obj.loop _
          congr 2
          rw [hsz]
          exact (((x2.2 mem.n (by omega)).trans e1)).symm, by show mem.n < mem.n + 1 + 1; omega, hr.size, fun t => by
          rw [hsz]
          exact AV.R_ext x2 (AV.R_ext x1 (hr.tmp t))⟩, nB _ (by rw [hsz]; omega)⟩
    rw [hsz] at p2
    have e2 : envPush (envPush env mem.n w1.heap.size) (mem.n + 1) (w1.heap.size + 1) (mem.n + 1) = w1.heap.size + 1 := if_pos rfl
    exact ⟨_, (x2.2 mem.n (by omega)).trans e1, e2, x1.trans x2, p2⟩
  have tgt : ∀ w1, C.J.rel w w1 → ∀ fid : FuncId, (∃ fn, FnOk C.P f fn ∧ fn.body.isSome = true) ∧ CallsJ C.J f (#[.func (.yield (w1.heap.size + 1)) #[] #[]] ++ (caps.map (CV.conc env)).toArray)
      ((w1.alloc (.deferred (some []))).alloc (.loop { state := .ready, pending := none, fn := fid, tmps := a.tmps, params := ps, assign := as, body := bd, defers := w1.heap.size }))
      (CE (fun _ w' => loopEnd C.J (w1.heap.size + 1) Q { a with defers := { target := .collected w1.heap.size, args := #[] } :: a.defers } w') (fun _ _ => False)) := fun w1 h1 fid => by
    obtain ⟨env2, e1, e2, x2, hm2⟩ := blocks w1 h1 fid
    have ha : All2 (AV.R env2 (mem.n + 2)) (.one (.yl (mem.n + 1)) :: caps.map CV.av) (.func (.yield (w1.heap.size + 1)) #[] #[] :: caps.map (CV.conc env)) :=
      ⟨⟨by show mem.n + 1 < mem.n + 2; omega, by simp only [SV.conc]; rw [e2]⟩, All2.both _ _ caps fun c hc => AV.R_ext x2 (CV.av_R (hcok c hc))⟩
    have := callWith_ok hC hx (.fn f) _ _ _ _ h B w0 env2 _ _ (fun _ w' => loopEnd C.J (w1.heap.size + 1) Q { a with defers := { target := .collected w1.heap.size, args := #[] } :: a.defers } w') (fun _ _ => False) hm2 ha
      (fun r mem' env' v w' q1 q2 q3 q4 => ?_) (fun v mem' env' w' q1 _ _ => q1)
    · have e : (#[Value.func (.yield (w1.heap.size + 1)) #[] #[]] ++ (caps.map (CV.conc env)).toArray) = (Value.func (.yield (w1.heap.size + 1)) #[] #[] :: caps.map (CV.conc env)).toArray := by simp
      rw [e]; exact this
    · have hel : env' (mem.n + 1) = w1.heap.size + 1 := (q3.2 _ (by show mem.n + 1 < mem.n + 1 + 1; omega)).trans e2
      have hed : env' mem.n = w1.heap.size := (q3.2 _ (by show mem.n < mem.n + 1 + 1; omega)).trans e1
      have hx' : Ext env mem.n env' mem'.n := x2.trans q3
      have fin : ∀ (st : LoopState) (pe : Option Code) (tmx : TM) (psx : Array Tmp) (asx bdx : Code) (dx : Nat) (ae : AE), mem'.get (mem.n + 1) = some (.ob (.lp st pe tmx psx asx bdx dx)) → st ≠ .busy → (k ae ⟨tm.sz, tm.t, .mark mem.n :: tm.df⟩ (mem'.set (mem.n + 1) .gone)).sat K →
          ∀ w2, C.J.rel w' w2 → ∃ r : Loop, w2.heap[w1.heap.size + 1]? = some (.loop r) ∧ r.state ≠ .busy ∧ r.pending = pe ∧ Q ae.conc { a with defers := { target := .collected w1.heap.size, args := #[] } :: a.defers } (w2.putObj (w1.heap.size + 1) (.loop { r with state := .exhausted })) := fun st pe tmx psx asx bdx dx ae hgl hst hsat w2 h2 => by
        have hm3 := q2.rely h2
        obtain ⟨o2, ho2, ⟨fid2, tmps2, rfl, hd2, hsz2, ht2⟩, hnB2⟩ := hm3.blk _ _ hgl
        rw [hel] at ho2
        refine ⟨_, ho2, hst, rfl, ?_⟩
        have hm4 := hm3.putObj (ab' := .gone) (o' := .loop { state := .exhausted, pending := pe, fn := fid2, tmps := tmps2, params := psx, assign := asx, body := bdx, defers := env' dx }) hgl trivial
        rw [hel] at hm4
        exact hk ae _ _ env' _ _ hsat ⟨hr.size, fun t => AV.R_ext hx' (hr.tmp t), ⟨⟨by rw [hed], Nat.lt_of_lt_of_le (by show mem.n < mem.n + 1 + 1; omega) q3.1⟩, hr.defers.ext hx'⟩, hm4⟩ hx'
      unfold endLoopA at q1
      intro w2 h2
      split at q1
      · rename_i hgl
        obtain ⟨r2, r3, r4, r5, r6⟩ := fin _ _ _ _ _ _ _ .normal hgl (by simp) q1 w2 h2
        exact ⟨r2, r3, r4, by obtain ⟨x1, x2, x3, x4, x5, x6, x7, x8⟩ := r2; dsimp only at r5; subst r5; exact r6⟩
      · rename_i hgl
        obtain ⟨r2, r3, r4, r5, r6⟩ := fin _ _ _ _ _ _ _ .ret hgl (by simp) q1 w2 h2
        exact ⟨r2, r3, r4, by obtain ⟨x1, x2, x3, x4, x5, x6, x7, x8⟩ := r2; dsimp only at r5; subst r5; exact r6⟩
      · rename_i id _ _ _ _ _ hgl
        obtain ⟨r2, r3, r4, r5, r6⟩ := fin _ _ _ _ _ _ _ (.exit id) hgl (by simp) q1 w2 h2
        exact ⟨r2, r3, r4, by obtain ⟨x1, x2, x3, x4, x5, x6, x7, x8⟩ := r2; dsimp only at r5; subst r5; exact r6⟩
      · rename_i t _ _ _ _ _ hgl
        obtain ⟨r2, r3, r4, r5, r6⟩ := fin _ _ _ _ _ _ _ (.goto t) hgl (by simp) q1 w2 h2
        exact ⟨r2, r3, r4, by obtain ⟨x1, x2, x3, x4, x5, x6, x7, x8⟩ := r2; dsimp only at r5; subst r5; exact r6⟩
      · exact q1.elim
  obtain ⟨⟨fn, hfn, hb⟩, _⟩ := tgt w (C.J.refl w) 0
  refine wpJ_rangeFunc hfe hfn.1 hfn.2 hb fun w1 h1 fid => (tgt w1 h1 fid).2.mono fun e w' he => ?_
  rcases he with ⟨v, rfl, hl⟩ | ⟨v, _, hf⟩
  · exact ⟨v, rfl, hl⟩
  · exact hf.elim
theorem callEnd_Q {o : Oper} {a : Act} {M : Act → World → Prop} {Q Q' : Exit → Act → World → Prop} (h : ∀ c a w, Q' (.panic c) a w → Q (.panic c) a w) : ∀ e w, callEnd o a M Q' e w → callEnd o a M Q e w := by
  intro e w he
  cases e with
  | returned v => exact he
  | panicked c => exact h _ _ _ he
  | outgrown => exact he
theorem uponJ_Q {P : Program} {J : Judg P} {o : Oper} {a : Act} {M : Act → World → Prop} {Q Q' : Exit → Act → World → Prop} (h : ∀ c a w, Q' (.panic c) a w → Q (.panic c) a w) {r : Result Next} (hh : uponJ J o a M Q' r) : uponJ J o a M Q r := by
  cases r with
  | ok n w' =>
    cases n <;> first
      | exact hh
      | exact CallsJ.mono hh (callEnd_Q h)
      | exact RoundJ.mono hh (callEnd_Q h)
      | exact hh.elim
  | halt x w' => cases x <;> first | exact h _ _ _ hh | exact hh.elim
theorem segRun_sound (hC : COk C) {call : CallK} (hcall : CallOk C K call) {ops : Array Oper} (hback : backB ops = true) {B : Nat → Prop} {w0 : World} : ∀ (f : Nat) (i : Nat) (pl : List (Option Nat)), segPlan ops f i = some pl → ∀ (tm : TM) (mem : Mem) (k : AE → TM → Mem → Out), (segRun C call ops pl i tm mem k).sat K →
    ∀ (env : Nat → Nat) (a : Act) (w : World) (Q : Exit → Act → World → Prop), Rel C B w0 env tm mem a w →
      (∀ e tm' mem' env' a' w', (k e tm' mem').sat K → Rel C B w0 env' tm' mem' a' w' → Ext env mem.n env' mem'.n → Q e.conc a' w') → wpAnyJ C.J .any ops Q (ops.size - i) (firstsA ops i) a w
  | 0, i, pl, hp, tm, mem, k, h, env, a, w, Q, hr, hk => by cases hp
  | f + 1, i, pl, hp, tm, mem, k, h, env, a, w, Q, hr, hk => by
    simp only [segPlan] at hp
    split at hp
    · rename_i hle
      cases hp
      exact any_done (Nat.le_of_ble_eq_true hle) (hk .normal tm mem env a w h hr (Ext.refl _ _))
    · rename_i hle
      have hlt : i < ops.size := by
        rcases Nat.lt_or_ge i ops.size with h' | h'
        · exact h'
        · rw [Nat.ble_eq_true_of_le h'] at hle; cases hle
      split at hp
      · rename_i hone
        obtain ⟨pl', hpl, rfl⟩ := Option.map_eq_some_iff.1 hp
        have hr1 := of_decide_eq_true hone
        simp only [segRun] at h
        have ho : (ops.toList.drop i).take 1 = [ops[i]] := by
          rw [List.drop_eq_getElem_cons (by simpa using hlt)]
          simp
        rw [ho] at h
        refine any_one hlt hr1 ?_
        let Q' : Exit → Act → World → Prop := fun e a w => match e with
          | .normal => wpAnyJ C.J .any ops Q (ops.size - (i + 1)) (firstsA ops (i + 1)) a w
          | e => Q e a w
        have hw : wpListJ C.J ops Q' [ops[i]] a w := runOps_sound hC hcall [ops[i]] tm mem _ h B w0 env a w Q' hr fun e tm' mem' env' a' w' q1 q2 q3 => by
          cases e with
          | normal => exact segRun_sound hC hcall hback f (i + 1) pl' hpl tm' mem' k q1 env' a' w' Q q2 fun e2 tm2 mem2 env2 a2 w2 p1 p2 p3 => hk e2 tm2 mem2 env2 a2 w2 p1 p2 (q3.trans p3)
          | exit id => exact hk _ tm' mem' env' a' w' q1 q2 q3
          | goto l => exact hk _ tm' mem' env' a' w' q1 q2 q3
          | ret => exact hk _ tm' mem' env' a' w' q1 q2 q3
          | panic v => exact hk _ tm' mem' env' a' w' q1 q2 q3
        unfold wpListJ at hw
        unfold wpOpJ
        simp only [Array.getElem?_eq_getElem hlt]
        split at hw
        · rename_i hwd
          rw [if_pos hwd]
          exact ⟨hw.1, fun w1 h1 => uponJ_Q (fun c a w q => q) (hw.2 w1 h1)⟩
        · rename_i hwd
          rw [if_neg hwd]
          exact hw
      · split at hp
        · rename_i hc
          obtain ⟨pl', hpl, rfl⟩ := Option.map_eq_some_iff.1 hp
          simp only [segRun] at h
          simp only [Bool.and_eq_true, Bool.or_eq_true] at hc
          obtain ⟨⟨⟨h1, h2⟩, h3⟩, h4⟩ := hc
          exact open_part hC hback (Nat.le_of_ble_eq_true h1) (Nat.le_of_ble_eq_true h2) (h3.imp Nat.eq_of_beq_eq_true id) h4 hr h fun tm' mem' env' a' w' q1 q2 q3 =>
            segRun_sound hC hcall hback f _ pl' hpl tm' mem' k q1 env' a' w' Q q2 fun e2 tm2 mem2 env2 a2 w2 p1 p2 p3 => hk e2 tm2 mem2 env2 a2 w2 p1 p2 (q3.trans p3)
        · cases hp
theorem bothAll_all {α : Type} {go : α → Out} : ∀ {l : List α}, (bothAll (l.map go)).sat K → ∀ v ∈ l, (go v).sat K
  | [], h, _, _ => h.elim
  | [x], h, v, hv => by
    simp only [List.mem_cons, List.not_mem_nil, or_false] at hv
    subst hv; exact h
  | x :: y :: l, h, v, hv => by
    have h : (go x).sat K ∧ (bothAll ((y :: l).map go)).sat K := h
    rcases List.mem_cons.1 hv with rfl | hv
    · exact h.1
    · exact bothAll_all (l := y :: l) h.2 v hv
def AgrF (F : List Tmp) (a a' : Act) : Prop := a'.defers = a.defers ∧ a'.tmps.size = a.tmps.size ∧ ∀ t, t ∉ F → a'.tmps.getD t undef = a.tmps.getD t undef
theorem AgrF.refl (F : List Tmp) (a : Act) : AgrF F a a := ⟨rfl, rfl, fun _ _ => rfl⟩
theorem AgrF.of_put {F : List Tmp} {a a' : Act} {d : Option Tmp} {v : Value} (hd : ∀ t, d = some t → t ∈ F) (h : AgrF F a a') : AgrF F (a.put d v) a' :=
  ⟨h.1.trans put_defers'.symm, h.2.1.trans put_size.symm, fun t ht => by rw [put_get (fun e => ht (hd t e))]; exact h.2.2 t ht⟩
theorem clear_get : ∀ {F : List Tmp} {tm : TM}, (clearT F tm).sz = tm.sz ∧ (clearT F tm).df = tm.df ∧ ∀ t, (clearT F tm).get t = .any ∨ ((clearT F tm).get t = tm.get t ∧ (t ∉ F ∨ tm.sz ≤ t))
  | [], tm => ⟨rfl, rfl, fun t => .inr ⟨rfl, .inl (by simp)⟩⟩
  | u :: F, tm => by
    obtain ⟨h1, h2, h3⟩ := clear_get (F := F) (tm := tm.set u .any)
    refine ⟨h1.trans (set_sz _ _ _), h2.trans (set_df _ _ _), fun t => ?_⟩
    rcases h3 t with h | ⟨h, h'⟩
    · exact .inl h
    · by_cases hut : u = t
      · subst hut
        by_cases hlt : u < tm.sz
        · refine .inl (h.trans ?_)
          unfold TM.set
          rw [show Nat.blt u tm.sz = true from Nat.ble_eq_true_of_le hlt]
          simp only [TM.get]
          cases hq : (tm.t.set u .any).get u with
          | none => rfl
          | some y => rw [Tr.get_set_eq _ _ _ _ hq]
        · refine .inr ⟨h.trans ?_, .inr (Nat.le_of_not_lt hlt)⟩
          unfold TM.set
          have : Nat.blt u tm.sz = false := by
            cases hb : Nat.blt u tm.sz with
            | false => rfl
            | true => exact absurd (Nat.le_of_ble_eq_true hb) hlt
          rw [this]
      · refine .inr ⟨h.trans ?_, ?_⟩
        · unfold TM.set
          split
          · simp only [TM.get]; rw [Tr.get_set_ne _ _ _ _ hut]
          · rfl
        · rw [set_sz] at h'
          exact h'.imp (fun q => by simp only [List.mem_cons, not_or]; exact ⟨fun e => hut e.symm, q⟩) id
theorem Rel.clear {B : Nat → Prop} {w0 w : World} {env : Nat → Nat} {tm : TM} {mem : Mem} {a a' : Act} {F : List Tmp} (h : Rel C B w0 env tm mem a w) (ha : AgrF F a a') : Rel C B w0 env (clearT F tm) mem a' w := by
  obtain ⟨h1, h2, h3⟩ := clear_get (F := F) (tm := tm)
  refine ⟨ha.2.1.trans (h.size.trans h1.symm), fun t => ?_, by rw [h2, ha.1]; exact h.defers, h.mem⟩
  rcases h3 t with q | ⟨q, q'⟩
  · rw [q]; trivial
  · rw [q]
    rcases q' with q' | q'
    · rw [ha.2.2 t q']; exact h.tmp t
    · have e1 : a'.tmps.getD t undef = undef := by
        have : ¬ t < a'.tmps.size := by rw [ha.2.1, h.size]; omega
        simp [this]
      have e2 : a.tmps.getD t undef = undef := by
        have : ¬ t < a.tmps.size := by rw [h.size]; omega
        simp [this]
      rw [e1, ← e2]; exact h.tmp t
theorem pickFl_spec {ops : Array Oper} {listed : Array Bool} {tm : TM} {i : Nat} {o : Oper} {ps : List Cnd} {v : AV} : ∀ {l : List Nat}, pickFl C ops listed tm l = some (i, o, ps, v) → i ∈ l ∧ ops[i]? = some o ∧ Region.free .any ops listed i = true ∧ pureFl C ops.toList o tm = some (ps, v)
  | [], h => by cases h
  | j :: l, h => by
    unfold pickFl at h
    split at h
    · rename_i o' ho hf
      split at h
      · rename_i ps' v' hp
        cases h
        exact ⟨List.mem_cons_self .., ho, hf, hp⟩
      · obtain ⟨q1, q2⟩ := pickFl_spec h; exact ⟨List.mem_cons_of_mem _ q1, q2⟩
    · obtain ⟨q1, q2⟩ := pickFl_spec h; exact ⟨List.mem_cons_of_mem _ q1, q2⟩
theorem wantG_spec {ops : Array Oper} {o : Oper} {tm : TM} {a : Act} {b : Bool} {env : Nat → Nat} {m : Nat} (ht : ∀ t, (tm.get t).R env m (a.tmps.getD t undef)) (h : wantG ops.toList o tm = some b) : Region.wanted o (yielded ops a.tmps) = b := by
  unfold wantG at h
  unfold Region.wanted
  cases hg : o.guard with
  | none => rw [hg] at h; cases h; rfl
  | some p =>
    obtain ⟨j, want⟩ := p
    rw [hg] at h
    dsimp only at h ⊢
    rw [Array.getElem?_toList] at h
    cases hd : (ops[j]?).bind (·.dst) with
    | none => rw [hd] at h; cases h
    | some t =>
      rw [hd] at h
      dsimp only at h
      split at h
      · rename_i x hb
        cases h
        have hv := bool_val (.inl hb) (ht t)
        have hlt : t < a.tmps.size := by
          rcases Nat.lt_or_ge t a.tmps.size with h | h
          · exact h
          · simp [Array.getElem?_eq_none h, undef] at hv
        have hv' : a.tmps[t]? = some (.bool x) := by
          rw [Array.getElem?_eq_getElem hlt]
          congr 1
          simpa [hlt] using hv
        unfold yielded
        rw [hd]
        simp [hv']
      · split at h
        · rename_i l hl
          cases h
          have hv := ht t
          rw [hl] at hv
          obtain ⟨vs, hv, _⟩ := hv
          have hy0 := yielded_tuple (j := j) hd hv
          rw [hy0]; rfl
        · cases h
theorem splitG_spec {all : List Oper} {tm : TM} {t : Tmp} {x : Bool} : ∀ {l : List Nat}, splitG all tm l = some (t, x) → (tm.get t).bool = .s x
  | [], h => by cases h
  | i :: l, h => by
    unfold splitG at h
    split at h
    · split at h
      · split at h
        · rename_i hb
          cases h; exact hb
        · exact splitG_spec h
      · exact splitG_spec h
    · exact splitG_spec h
theorem withG_sat {B : Nat → Prop} {w0 w : World} {env : Nat → Nat} {all : List Oper} {l : List Nat} {tm : TM} {mem : Mem} {a : Act} {body : TM → Out} (h : (withG all l tm body).sat K) (hr : Rel C B w0 env tm mem a w) : ∃ tm', Rel C B w0 env tm' mem a w ∧ (body tm').sat K := by
  unfold withG at h
  split at h
  · rename_i t x ht
    have hv := bool_val (.inr (splitG_spec ht)) (hr.tmp t)
    cases x
    · exact ⟨tm.set t (.one (.lb false)), ⟨hr.size.trans (set_sz _ _ _).symm, lit_R (mem := ⟨_, Tr.leaf⟩) hr.tmp hv, by rw [set_df]; exact hr.defers, hr.mem⟩, h.2 rfl⟩
    · exact ⟨tm.set t (.one (.lb true)), ⟨hr.size.trans (set_sz _ _ _).symm, lit_R (mem := ⟨_, Tr.leaf⟩) hr.tmp hv, by rw [set_df]; exact hr.defers, hr.mem⟩, h.1 rfl⟩
  · exact ⟨tm, hr, h⟩
theorem pureFl_sound (hC : COk C) {B : Nat → Prop} {w0 w : World} {env : Nat → Nat} {tm : TM} {mem : Mem} {a : Act} {ops : Array Oper} {o : Oper} {ps : List Cnd} {v : AV} (hr : Rel C B w0 env tm mem a w) (h : pureFl C ops.toList o tm = some (ps, v)) (hp : allP ps) :
    ∃ val, v.R env mem.n val ∧ YieldsJ C.J ops o val a := by
  unfold pureFl at h
  split at h
  · rename_i hw
    cases h
    exact ⟨undef, ⟨[], rfl, trivial⟩, .inr ⟨wantG_spec hr.tmp hw, rfl⟩⟩
  · rename_i hw hfine
    have hg := wantG_spec hr.tmp hw
    suffices hs : (1 ≤ C.J.lvl → NS C.J.lvl C.P (execOp a.eval o)) ∧ ∃ val, v.R env mem.n val ∧ ∀ w, (execOp a.eval o).run C.P w = .ok (.value val) w by
      obtain ⟨h1, val, h2, h3⟩ := hs
      exact ⟨val, h2, .inl ⟨hg, h1, h3⟩⟩
    have ns : isCallV o = false → 1 ≤ C.J.lvl → NS C.J.lvl C.P (execOp a.eval o) := fun hc hl => opFine_ns hr hfine hc hl hC.lvl
    have det : v.det = true → (∀ w, ∃ val, (execOp a.eval o).run C.P w = .ok (.value val) w ∧ v.R env mem.n val) → ∃ val, v.R env mem.n val ∧ ∀ w, (execOp a.eval o).run C.P w = .ok (.value val) w := fun hd hw => by
      obtain ⟨val, q1, q2⟩ := hw w
      refine ⟨val, q2, fun w1 => ?_⟩
      obtain ⟨val1, p1, p2⟩ := hw w1
      rw [AV.R_conc q2 hd, ← AV.R_conc p2 hd]; exact p1
    split at h
    · rename_i x ho
      cases h
      exact ⟨ns (by unfold isCallV; rw [ho]), _, ev_R hr x, fun w => by unfold execOp; rw [ho]; rfl⟩
    · rename_i op t x y sp ho
      split at h
      · rename_i hb
        split at h
        · rename_i hd
          cases h
          refine ⟨ns (by unfold isCallV; rw [ho]), det hd fun w => ?_⟩
          obtain ⟨val, q1, q2⟩ := binA_sound (w := w) x y hb hp (ev_R hr x) (ev_R hr y)
          refine ⟨val, ?_, q2⟩
          unfold execOp
          rw [ho]
          simp only [Sem.run_bind] at q1 ⊢
          simp [q1]
        · cases h
      · cases h
    · rename_i t x f ho
      split at h
      · rename_i hb
        split at h
        · rename_i hd
          cases h
          refine ⟨ns (by unfold isCallV; rw [ho]), det hd fun w => ?_⟩
          obtain ⟨val, q1, q2⟩ := fieldAddrA_sound (P := C.P) (w := w) hb (ev_R hr x)
          refine ⟨val, ?_, q2⟩
          unfold execOp
          rw [ho]
          simp [q1]
        · cases h
      · cases h
    · cases h
  · cases h
def QFl {P : Program} (J : Judg P) (F : List Tmp) (Q : Exit → Act → World → Prop) : Exit → Act → World → Prop := fun e a w => ∀ w1, J.rel w w1 → match e with
  | .panic c => ∀ a', AgrF F a a' → Q (.panic c) a' w1
  | e => Q e a w1
theorem mem_dsts {ops : Array Oper} {i : Nat} {o : Oper} (h : ops[i]? = some o) : ∀ t, o.dst = some t → t ∈ dstsOf ops := fun t ht => by
  refine List.mem_filterMap.2 ⟨o, ?_, ht⟩
  exact Array.mem_def.1 (Array.mem_of_getElem? h)
theorem anyRun_sound (hC : COk C) {call : CallK} (hcall : CallOk C K call) {ops : Array Oper} (hsel : Region.noSelect ops = true) {B : Nat → Prop} {w0 : World} : ∀ (n : Nat) (listed : Array Bool) (tm : TM) (mem : Mem) (k : AE → TM → Mem → Out), (anyRun C call ops n listed tm mem k).sat K →
    ∀ (env : Nat → Nat) (a : Act) (w : World) (Q : Exit → Act → World → Prop), Rel C B w0 env tm mem a w →
      (∀ e tm' mem' env' a' w', (k e tm' mem').sat K → Rel C B w0 env' tm' mem' a' w' → Ext env mem.n env' mem'.n → Q e.conc a' w') → wpAnyJ C.J .any ops (QFl C.J (dstsOf ops) Q) n listed a w
  | 0, listed, tm, mem, k, h, env, a, w, Q, hr, hk => by
    simp only [anyRun] at h
    split at h
    · rename_i hn
      exact ⟨hn, fun w1 h1 => hk .normal tm mem env a w1 h (hr.rely h1) (Ext.refl _ _)⟩
    · exact h.elim
  | n + 1, listed, tm, mem, k, h, env, a, w, Q, hr, hk => by
    simp only [anyRun] at h
    split at h
    · rename_i hn
      exact ⟨fun _ w1 h1 => hk .normal tm mem env a w1 h (hr.rely h1) (Ext.refl _ _), fun i hi => by rw [hn] at hi; cases hi⟩
    · rename_i i0 l0 hl
      obtain ⟨tm, hr, h⟩ := withG_sat h hr
      split at h
      · rename_i i o ps v hpk
        obtain ⟨hi, ho, hfree, hpu⟩ := pickFl_spec hpk
        obtain ⟨hps, h⟩ := needs_sat h
        obtain ⟨val, hv, hy⟩ := pureFl_sound hC hr hpu hps
        rw [← hl] at hi
        refine wpAnyJ_first ho (Region.noSelect_spec hsel) (v := val) (fun c a w q w1 h1 a' ha => q w1 h1 a' (ha.of_put (mem_dsts ho))) (fun a w w1 h1 q w2 h2 => q w2 (C.J.trans _ _ _ h1 h2)) n listed a w (Region.free_spec ho hfree) hi hy ?_
        exact anyRun_sound hC hcall hsel n _ _ mem k h env _ w Q (hr.put hr.mem (Ext.refl _ _) hv) hk
      refine ⟨fun h0 => (by rw [hl] at h0; cases h0), fun i hi => ?_⟩
      have hlt : i < ops.size := by
        obtain ⟨_, o, ho, _⟩ := mem_ready.1 hi
        exact (Array.getElem?_eq_some_iff.1 ho).1
      rw [hl] at hi
      have h1 := bothAll_all h i hi
      have ho : (ops.toList.drop i).take 1 = [ops[i]] := by
        rw [List.drop_eq_getElem_cons (by simpa using hlt)]
        simp
      rw [ho] at h1
      let Q' : Exit → Act → World → Prop := fun e a w => match e with
        | .normal => wpAnyJ C.J .any ops (QFl C.J (dstsOf ops) Q) n (listed.setIfInBounds i true) a w
        | e => QFl C.J (dstsOf ops) Q e a w
      have hw : wpListJ C.J ops Q' [ops[i]] a w := runOps_sound hC hcall [ops[i]] tm mem _ h1 B w0 env a w Q' hr fun e tm' mem' env' a' w' q1 q2 q3 => by
        cases e with
        | normal => exact anyRun_sound hC hcall hsel n _ tm' mem' k q1 env' a' w' Q q2 fun e2 tm2 mem2 env2 a2 w2 p1 p2 p3 => hk e2 tm2 mem2 env2 a2 w2 p1 p2 (q3.trans p3)
        | exit id => exact fun w1 h1 => hk _ _ mem' env' a' w1 q1 ((q2.rely h1).clear (AgrF.refl _ _)) q3
        | goto l => exact fun w1 h1 => hk _ _ mem' env' a' w1 q1 ((q2.rely h1).clear (AgrF.refl _ _)) q3
        | ret => exact fun w1 h1 => hk _ _ mem' env' a' w1 q1 ((q2.rely h1).clear (AgrF.refl _ _)) q3
        | panic v => exact fun w1 h1 a2 ha => hk _ _ mem' env' a2 w1 q1 ((q2.rely h1).clear ha) q3
      unfold wpListJ at hw
      unfold wpOpJ
      simp only [Array.getElem?_eq_getElem hlt]
      split at hw
      · rename_i hwd
        rw [if_pos hwd]
        exact ⟨hw.1, fun w1 h1 => uponJ_Q (fun c a w q => q) (hw.2 w1 h1)⟩
      · rename_i hwd
        rw [if_neg hwd]
        exact hw
section
variable {P : Program} {J : Judg P} {md : Region.Mode} {ops : Array Oper}
def Lft (D0 D : List Deferred) (a0 a : Act) : Prop := a.tmps = a0.tmps ∧ ∃ ds, a0.defers = ds ++ D0 ∧ a.defers = ds ++ D
theorem Lft.put {D0 D : List Deferred} {a0 a : Act} (h : Lft D0 D a0 a) (d : Option Tmp) (v : Value) : Lft D0 D (a0.put d v) (a.put d v) := by
  obtain ⟨h1, ds, h2, h3⟩ := h
  cases d with
  | none => exact ⟨h1, ds, h2, h3⟩
  | some t => exact ⟨by simp only [Act.put]; rw [h1], ds, h2, h3⟩
theorem Lft.eval {D0 D : List Deferred} {a0 a : Act} (h : Lft D0 D a0 a) : a.eval = a0.eval := by
  funext x
  cases x <;> simp only [Act.eval, h.1]
def AgrT (F : List Tmp) (a a' : Act) : Prop := a'.tmps.size = a.tmps.size ∧ ∀ t, t ∉ F → a'.tmps.getD t undef = a.tmps.getD t undef
theorem AgrT.put {F : List Tmp} {a a' : Act} (h : AgrT F a a') {d : Option Tmp} (hd : ∀ t, d = some t → t ∈ F) (v : Value) : AgrT F a (a'.put d v) :=
  ⟨put_size.trans h.1, fun t ht => by rw [put_get (fun e => ht (hd t e))]; exact h.2 t ht⟩
end
theorem exec_ok (hC : COk C) : ∀ n, ExecOk C K n
  | 0 => fun task tm mem k h => by cases task <;> exact h.elim
  | n + 1 => by
    have ih := exec_ok hC n
    intro task tm mem k h B w0 env a w Q hr hk
    cases task with
    | again body =>
      simp only [exec] at h
      split at h
      · rename_i bd oq hq
        obtain ⟨rfl, h⟩ := h
        unfold roundQ at hq
        split at hq
        · rename_i bd' F hl
          split at hq
          · rename_i o' hF
            cases hq
            obtain ⟨id, hm⟩ : ∃ id, (id, body, F) ∈ C.lq := by
              unfold loopQ at hl
              split at hl
              · cases hl
              · split at hl
                · exact ⟨_, assoc_mem hl⟩
                · cases hl
            exact hC.lqs _ hm K k tm mem _ hF h B w0 env a w Q hr hk
          · cases hq
        · cases hq
      refine InLoopJ.round (ih (.run body) _ _ _ h B w0 env a w _ hr ?_)
      intro ae tm' mem' env' a' w' hk' hr' he
      cases ae with
      | normal => exact ih (.again body) _ _ _ hk' B w0 env' a' w' Q hr' (fun ae2 tm2 mem2 env2 a2 w2 q1 q2 q3 => hk ae2 tm2 mem2 env2 a2 w2 q1 q2 (he.trans q3))
      | exit id => exact hk _ _ _ _ _ _ hk' hr' he
      | goto l => exact hk _ _ _ _ _ _ hk' hr' he
      | ret => exact hk _ _ _ _ _ _ hk' hr' he
      | panic v => exact hk _ _ _ _ _ _ hk' hr' he
    | within rest body =>
      refine InScopeJ.go (ih (.run rest) _ _ _ h B w0 env a w _ hr ?_)
      intro ae tm' mem' env' a' w' hk' hr' he
      cases ae with
      | normal => exact hk _ _ _ _ _ _ hk' hr' he
      | exit id => exact hk _ _ _ _ _ _ hk' hr' he
      | ret => exact hk _ _ _ _ _ _ hk' hr' he
      | panic v => exact hk _ _ _ _ _ _ hk' hr' he
      | goto l =>
        dsimp only at hk'
        split at hk'
        · rename_i rest' hf
          exact ⟨rest', hf, ih (.within rest' body) _ _ _ hk' B w0 env' a' w' Q hr' (fun ae2 tm2 mem2 env2 a2 w2 q1 q2 q3 => hk ae2 tm2 mem2 env2 a2 w2 q1 q2 (he.trans q3))⟩
        · exact hk'.elim
    | run c =>
      cases c with
      | skip => exact wpJ_skip (hk .normal _ _ _ _ _ h hr (Ext.refl _ _))
      | label l => exact wpJ_label (hk .normal _ _ _ _ _ h hr (Ext.refl _ _))
      | exit id => exact wpJ_exit (hk (.exit id) _ _ _ _ _ h hr (Ext.refl _ _))
      | goto l => exact wpJ_goto (hk (.goto l) _ _ _ _ _ h hr (Ext.refl _ _))
      | ret => exact wpJ_ret (hk .ret _ _ _ _ _ h hr (Ext.refl _ _))
      | loop body =>
        simp only [exec] at h
        split at h
        · rename_i bd ps e tm' mem' hl
          obtain ⟨rfl, h⟩ := h
          obtain ⟨h1, h2⟩ := needs_sat h
          obtain ⟨id, F, hm, hF⟩ := loopC_spec hl
          exact hC.lps _ hm tm mem ps e tm' mem' hF.symm h1 B w0 env a w Q hr (fun env' a' w' hr' hx => hk e _ _ _ _ _ h2 hr' hx)
        · exact h.elim
        · exact wpJ_loop_in (ih (.again body) _ _ _ h B w0 env a w Q hr hk)
      | scope body => exact wpJ_scope_in (ih (.within body body) _ _ _ h B w0 env a w Q hr hk)
      | seq x y =>
        refine wpJ_seq (ih (.run x) _ _ _ h B w0 env a w _ hr ?_)
        intro ae tm' mem' env' a' w' hk' hr' he
        cases ae with
        | normal => exact ih (.run y) _ _ _ hk' B w0 env' a' w' Q hr' (fun ae2 tm2 mem2 env2 a2 w2 q1 q2 q3 => hk ae2 tm2 mem2 env2 a2 w2 q1 q2 (he.trans q3))
        | exit id => exact hk _ _ _ _ _ _ hk' hr' he
        | goto l => exact hk _ _ _ _ _ _ hk' hr' he
        | ret => exact hk _ _ _ _ _ _ hk' hr' he
        | panic v => exact hk _ _ _ _ _ _ hk' hr' he
      | block id body =>
        refine wpJ_block (ih (.run body) _ _ _ h B w0 env a w _ hr ?_)
        intro ae tm' mem' env' a' w' hk' hr' he
        cases ae with
        | normal => exact hk _ _ _ _ _ _ hk' hr' he
        | goto l => exact hk _ _ _ _ _ _ hk' hr' he
        | ret => exact hk _ _ _ _ _ _ hk' hr' he
        | panic v => exact hk _ _ _ _ _ _ hk' hr' he
        | exit id' =>
          dsimp only at hk'
          show Exit.inBlock id Q (.exit id') a' w'
          simp only [Exit.inBlock]
          split at hk'
          · rename_i hb
            rw [if_pos (Nat.eq_of_beq_eq_true hb)]
            exact hk .normal _ _ _ _ _ hk' hr' he
          · rename_i hb
            rw [if_neg (fun e => by rw [e] at hb; rw [Nat.beq_refl] at hb; cases hb)]
            exact hk (.exit id') _ _ _ _ _ hk' hr' he
      | cond c x y =>
        simp only [exec] at h
        have hev := ev_R hr c
        split at h
        · rename_i hc
          have hv := bool_val (.inl hc) hev
          exact wpJ_cond_true hv (ih (.run x) _ _ _ h B w0 env a w Q hr hk)
        · rename_i hc
          have hv := bool_val (.inl hc) hev
          exact wpJ_cond_false hv (ih (.run y) _ _ _ h B w0 env a w Q hr hk)
        · rename_i t hc
          have hv := bool_val (.inr hc) hev
          refine wpJ_cond hv ?_
          split at h
          · rename_i ps tm' mem' hmc
            obtain ⟨h1, h2⟩ := needs_sat h
            unfold mergeC at hmc
            split at hmc
            · split at hmc
              · rename_i ops _
                obtain ⟨q1, q2⟩ := merge_sound hC (Option.some.inj hmc) (allP_imp h1) hr (fun env' a' w' hr' hx => hk .normal _ _ _ _ _ h2 hr' hx)
                cases t with
                | true => exact q1 rfl
                | false => exact wpJ_skip (q2 rfl)
              · cases hmc
            · cases hmc
          · exact h.elim
          · cases t with
            | true => exact ih (.run x) _ _ _ (h.1 rfl) B w0 env a w Q hr hk
            | false => exact ih (.run y) _ _ _ (h.2 rfl) B w0 env a w Q hr hk
        · exact h.elim
      | region id ops draw =>
        cases draw with
        | false =>
          simp only [exec] at h
          obtain ⟨tm1, hr, h⟩ := splitAt_sat hr h
          exact wpJ_region_list (runOps_sound hC (callWith_ok hC ih) _ _ _ _ h B w0 env a w Q hr hk)
        | true =>
          simp only [exec] at h
          obtain ⟨tm1, hr, h⟩ := splitAt_sat hr h
          split at h
          · rename_i ops' oq hq
            obtain ⟨rfl, h⟩ := h
            unfold regQ at hq
            split at hq
            · cases hq
            · split at hq
              · rename_i ops2 F hA
                split at hq
                · rename_i o2 hF
                  cases hq
                  exact hC.rqs _ (assoc_mem hA) K k tm1 mem _ hF h B w0 env a w Q hr hk id
                · cases hq
              · cases hq
          split at h
          · obtain ⟨hcf, h⟩ := h
            split at h
            · rename_i s hs
              exact all_region hC hcf hs hr fun env' a' w' q1 q2 => hk .normal _ _ env' a' w' h q1 q2
            · exact h.elim
          split at h
          · split at h
            · rename_i pl hpl
              unfold partsAt at hpl
              split at hpl
              · rename_i hnb
                rw [Bool.and_eq_true] at hnb
                refine wpJ_mono (Q := fun e a w => (∀ c, e ≠ .panic c) ∧ Stb C.J Q e a w) (wpJ_region_any hC.mixed fun w1 h1 => parts_any hnb.1 (fun c a w q => q.1 c rfl) (fun a w w1 h1 q => ⟨q.1, fun w2 h2 => q.2 w2 (C.J.trans _ _ _ h1 h2)⟩) ?_) (fun e a w q => q.2 w (C.J.refl w))
                have := segRun_sound hC (callWith_ok hC ih) hnb.2 _ 0 pl hpl tm1 _ _ h env a { w1 with drawn := w1.drawn + 1 } (fun e a w => (∀ c, e ≠ .panic c) ∧ Stb C.J Q e a w) ⟨(hr.rely h1).size, (hr.rely h1).tmp, (hr.rely h1).defers, (hr.rely h1).mem.drew⟩ fun e tm2 mem2 env2 a2 w2 p1 p2 p3 => by
                  have hsat : (∀ c, e.conc ≠ .panic c) ∧ (k e tm2 mem2).sat K := by
                    cases e <;> first | exact p1.elim | exact ⟨fun c e => (by cases e), p1⟩
                  exact ⟨hsat.1, fun w3 h3 => hk e _ _ _ _ _ hsat.2 (p2.rely h3) p3⟩
                rw [firstsA_zero] at this
                exact this
              · cases hpl
            · exact h.elim
          split at h
          · split at h
            · rename_i hsel
              refine wpJ_mono (Q := QFl C.J (dstsOf ops) Q) (wpJ_region_any hC.mixed fun w1 h1 => anyRun_sound hC (callWith_ok hC ih) hsel _ _ _ _ _ h env a { w1 with drawn := w1.drawn + 1 } Q ⟨(hr.rely h1).size, (hr.rely h1).tmp, (hr.rely h1).defers, (hr.rely h1).mem.drew⟩ hk) fun e a w q => ?_
              cases e with
              | panic c => exact q w (C.J.refl w) a (AgrF.refl _ _)
              | _ => exact q w (C.J.refl w)
            · exact h.elim
          split at h
          · rename_i ops' hd fl hh
            refine wpJ_mono (Q := fun e a w => (fl = true → ∀ c, e ≠ .panic c) ∧ Stb C.J Q e a w) (open_headAt hC hh (Q := fun e a w => (fl = true → ∀ c, e ≠ .panic c) ∧ Stb C.J Q e a w) (fun hf c a w q => q.1 hf c rfl) (fun a w w1 h1 q => ⟨q.1, fun w2 h2 => q.2 w2 (C.J.trans _ _ _ h1 h2)⟩) hr h ?_) (fun e a w q => q.2 w (C.J.refl w))
            intro tm' mem' env' a' w' q1 q2 q3
            refine runOps_sound hC (callWith_ok hC ih) _ _ _ _ q1 B w0 env' a' w' _ q2 (fun e tm2 mem2 env2 a2 w2 p1 p2 p3 => ?_)
            have hsat : (fl = true → ∀ c, e.conc ≠ .panic c) ∧ (k e tm2 mem2).sat K := by
              cases fl with
              | false => exact ⟨(fun e => by cases e), p1⟩
              | true => cases e <;> first | exact p1.elim | exact ⟨fun _ c e => (by cases e), p1⟩
            exact ⟨hsat.1, fun w3 h3 => hk e _ _ _ _ _ hsat.2 (p2.rely h3) (q3.trans p3)⟩
          · exact h.elim
      | rangeFunc f params assign body =>
        simp only [exec] at h
        split at h
        · rename_i g caps hg
          exact range_sound hC ih hr hg h hk
        · exact h.elim
      | refuse why => exact h.elim
end
theorem callA_ends {C : Cfg} (hC : COk C) {tell : Bool} {n g : Nat} {fn : Func} (hfn : FnOk C.P g fn) {args : List AV} {mem : Mem} {K : AV → Mem → Prop} (h : (callA C tell n fn args mem).sat K)
    {B : Nat → Prop} {w0 w : World} {env : Nat → Nat} {vals : List Value} (hm : MR C B w0 env mem w) (ha : All2 (AV.R env mem.n) args vals) :
    CallsL C.J g vals.toArray w fun e w' => ∃ v, e = .returned v ∧ ∃ r mem' env', K r (keepMem tell mem') ∧ MR C B w0 env' mem' w' ∧ Ext env mem.n env' mem'.n ∧ r.R env' mem'.n v := by
  unfold callA at h
  split at h
  · rename_i c hb hlen
    refine (body_calls hC (exec_ok hC n) hfn hb (of_decide_eq_true hlen) h (S := fun v w' => ∃ r mem' env', K r (keepMem tell mem') ∧ MR C B w0 env' mem' w' ∧ Ext env mem.n env' mem'.n ∧ r.R env' mem'.n v) (Sp := fun _ _ => False) hm ha
      (fun r mem' env' v w' q1 q2 q3 q4 => ⟨r, mem', env', q1, q2, q3, q4⟩) (fun v mem' env' w' q _ _ => q)).mono fun e w' he => ?_
    rcases he with ⟨v, rfl, hs⟩ | ⟨v, _, hf⟩
    · exact ⟨v, rfl, hs⟩
    · exact hf.elim
  · exact h.elim
theorem callA_calls {C : Cfg} (hC : COk C) {tell : Bool} {n g : Nat} {fn : Func} (hfn : FnOk C.P g fn) {args : List AV} {mem : Mem} {K : AV → Mem → Prop} (h : (callA C tell n fn args mem).sat K)
    {B : Nat → Prop} {w0 w : World} {env : Nat → Nat} {vals : List Value} (hm : MR C B w0 env mem w) (ha : All2 (AV.R env mem.n) args vals) :
    CallsJ C.J g vals.toArray w fun e w' => ∃ v, e = .returned v ∧ ∃ r mem' env', K r (keepMem tell mem') ∧ MR C B w0 env' mem' w' ∧ Ext env mem.n env' mem'.n ∧ r.R env' mem'.n v := (callA_ends hC hfn h hm ha).calls
end Go.Ax

namespace Go.Ax
open Go Go.RowKit
def SV.flat : SV → Bool
  | .li .. => true
  | .si .. => true
  | .lb _ => true
  | .sb _ => true
  | _ => false
def TV.flat : TV → Bool
  | .one s => s.flat
  | .agg l => l.all SV.flat
def AV.flat : AV → Bool
  | .one s => s.flat
  | .agg l => l.all SV.flat
  | .tup l => l.all TV.flat
theorem SV.flat_R {env env' : Nat → Nat} {m m' : Nat} {s : SV} {v : Value} (hf : s.flat = true) (h : s.R env m v) : s.R env' m' v := by
  cases s <;> first | (cases hf; done) | exact h
theorem all2_flat {env env' : Nat → Nat} {m m' : Nat} : ∀ {l : List SV} {vs : List Value}, l.all SV.flat = true → All2 (SV.R env m) l vs → All2 (SV.R env' m') l vs
  | [], [], _, _ => trivial
  | s :: l, v :: vs, hf, h => by
    simp only [List.all_cons, Bool.and_eq_true] at hf
    exact ⟨SV.flat_R hf.1 h.1, all2_flat hf.2 h.2⟩
  | [], _ :: _, _, h => h.elim
  | _ :: _, [], _, h => h.elim
theorem TV.flat_R {env env' : Nat → Nat} {m m' : Nat} {s : TV} {v : Value} (hf : s.flat = true) (h : s.R env m v) : s.R env' m' v := by
  cases s with
  | one s => exact SV.flat_R hf h
  | agg l => obtain ⟨vs, h1, h2⟩ := h; exact ⟨vs, h1, all2_flat hf h2⟩
theorem all2_flatT {env env' : Nat → Nat} {m m' : Nat} : ∀ {l : List TV} {vs : List Value}, l.all TV.flat = true → All2 (TV.R env m) l vs → All2 (TV.R env' m') l vs
  | [], [], _, _ => trivial
  | s :: l, v :: vs, hf, h => by
    simp only [List.all_cons, Bool.and_eq_true] at hf
    exact ⟨TV.flat_R hf.1 h.1, all2_flatT hf.2 h.2⟩
  | [], _ :: _, _, h => h.elim
  | _ :: _, [], _, h => h.elim
theorem AV.flat_R {env env' : Nat → Nat} {m m' : Nat} {s : AV} {v : Value} (hf : s.flat = true) (h : s.R env m v) : s.R env' m' v := by
  cases s with
  | one s => exact SV.flat_R hf h
  | agg l => obtain ⟨vs, h1, h2⟩ := h; exact ⟨vs, h1, all2_flat hf h2⟩
  | tup l => obtain ⟨vs, h1, h2⟩ := h; exact ⟨vs, h1, all2_flatT hf h2⟩
theorem all2_flatA {env env' : Nat → Nat} {m m' : Nat} : ∀ {l : List AV} {vs : List Value}, l.all AV.flat = true → All2 (AV.R env m) l vs → All2 (AV.R env' m') l vs
  | [], [], _, _ => trivial
  | s :: l, v :: vs, hf, h => by
    simp only [List.all_cons, Bool.and_eq_true] at hf
    exact ⟨AV.flat_R hf.1 h.1, all2_flatA hf.2 h.2⟩
  | [], _ :: _, _, h => h.elim
  | _ :: _, [], _, h => h.elim
def envG (gd : List (Nat × List SV)) (i : Nat) : Nat := ((gd[i]?).map (·.1)).getD 0
theorem ofList_get {α : Type} : ∀ (l : List α) (t : Tr α) (i j : Nat) (x : α), (Tr.ofList t i l).get j = some x → t.get j = some x ∨ (i ≤ j ∧ l[j - i]? = some x)
  | [], t, i, j, x, h => .inl h
  | y :: l, t, i, j, x, h => by
    rcases ofList_get l (t.set i y) (i + 1) j x h with h' | ⟨h1, h2⟩
    · by_cases hij : i = j
      · subst hij
        have := Tr.get_set_eq _ _ _ _ h'
        subst this
        exact .inr ⟨Nat.le_refl _, by simp⟩
      · rw [Tr.get_set_ne _ _ _ _ hij] at h'
        exact .inl h'
    · refine .inr ⟨by omega, ?_⟩
      have : j - i = (j - (i + 1)) + 1 := by omega
      rw [this]
      simpa using h2
theorem mem_glFrom {gd : List (Nat × List SV)} : ∀ {i : Nat} {p : Nat × Nat}, p ∈ glFrom i gd → ∃ j, p.2 = i + j ∧ ∃ q, gd[j]? = some q ∧ q.1 = p.1 := by
  induction gd with
  | nil => intro i p h; cases h
  | cons q gd ih =>
    intro i p h
    rcases List.mem_cons.1 h with rfl | h
    · exact ⟨0, rfl, q, rfl, rfl⟩
    · obtain ⟨j, h1, r, h2, h3⟩ := ih h
      exact ⟨j + 1, by omega, r, by simpa using h2, h3⟩
theorem MR.start {C : Cfg} {B : Nat → Prop} {w : World} (hgl : C.gl = glFrom 0 C.gd) (h : GDp C.gd B w) (hB : ∀ b, B b → b < w.heap.size) : MR C (· < w.heap.size) w (envG C.gd) (memG C.gd) w where
  below := Keep.refl _ _
  base := fun _ hb => hb
  lt := fun i ab hi => by
    rcases ofList_get _ _ _ _ _ hi with h | ⟨_, h⟩
    · rw [Tr.get_mk] at h; cases h
    · have := (List.getElem?_eq_some_iff.1 h).1
      simpa [memG] using this
  blk := fun i ab hi => by
    rcases ofList_get _ _ _ _ _ hi with h' | ⟨_, h'⟩
    · rw [Tr.get_mk] at h'; cases h'
    · simp only [Nat.sub_zero, List.getElem?_map] at h'
      obtain ⟨p, hp, rfl⟩ := Option.map_eq_some_iff.1 h'
      obtain ⟨h1, vs, rest, t, fr, h2, h3⟩ := h p (List.mem_of_getElem? hp)
      have he : envG C.gd i = p.1 := by simp [envG, hp]
      rw [he]
      exact ⟨vs, rest, t, fr, h2, h3.imp fun _ _ => SV.R_ext ⟨Nat.zero_le _, fun _ hi => absurd hi (Nat.not_lt_zero _)⟩, hB _ h1⟩
  sep := fun i j a b hi _ _ ha _ => by
    rcases ofList_get _ _ _ _ _ hi with h' | ⟨_, h'⟩
    · rw [Tr.get_mk] at h'; cases h'
    · simp only [Nat.sub_zero, List.getElem?_map] at h'
      obtain ⟨p, hp, rfl⟩ := Option.map_eq_some_iff.1 h'
      cases ha
  gl := fun p hp => by
    rw [hgl] at hp
    obtain ⟨j, h1, q, h2, h3⟩ := mem_glFrom hp
    have hj : p.2 = j := by omega
    rw [hj]
    refine ⟨by simp [envG, h2, h3], ?_⟩
    simpa [memG] using (List.getElem?_eq_some_iff.1 h2).1
  gd := fun p hp => by
    obtain ⟨h1, h2⟩ := h p hp
    exact ⟨hB _ h1, h2⟩
theorem psok_of {C : Cfg} (hC : COk C) (hgl : C.gl = glFrom 0 C.gd) {g : Nat} {fn : Func} (hfn : FnOk C.P g fn) (hb : fn.body.isSome = true) {F : List AV → Mem → Option (List Cnd × AV)}
    (Hf : ∀ args mem r conds, F args mem = some (conds, r) → args.all AV.flat = true ∧ r.flat = true)
    (H : ∀ args mem r conds, F args mem = some (conds, r) → allP conds → ∀ vals, All2 (AV.R (fun _ => 0) 0) args vals → ∃ args' n, All2 (AV.R (fun _ => 0) 0) args' vals ∧ args'.all AV.flat = true ∧
      (callA C false n fn args' (memG C.gd)).sat fun v _ => v.flat = true ∧ ∀ val, v.R (fun _ => 0) 0 val → r.R (fun _ => 0) 0 val) : PSOk C g F := by
  refine ⟨⟨fn, hfn, hb⟩, fun args mem r conds hF hp B w0 w env vals hm ha => ?_⟩
  obtain ⟨hflat, hr⟩ := Hf args mem r conds hF
  obtain ⟨args', n, ha', hfa', hrun⟩ := H args mem r conds hF hp vals (all2_flatA hflat ha)
  have hs := MR.start (C := C) hgl hm.gd hm.base
  refine (callA_calls hC hfn hrun hs (all2_flatA hfa' ha')).mono ?_
  rintro e w' ⟨v, he, r', mem', env', ⟨hf', hK⟩, hm', hx, hR⟩
  exact ⟨⟨v, he, AV.flat_R hr (hK v (AV.flat_R hf' hR))⟩, hm'.below.below⟩
def Cfg.sig (C : Cfg) : (P : Program) × Judg P := ⟨C.P, C.J⟩
theorem sig_P {C C' : Cfg} (h : C'.sig = C.sig) : C'.P = C.P := congrArg Sigma.fst h
theorem sig_calls {C C' : Cfg} (h : C'.sig = C.sig) {g : Nat} {a : Array Value} {w : World} {R : Ending → World → Prop} (hc : CallsJ C.J g a w R) : CallsJ C'.J g a w R := by
  have key : ∀ s s' : (P : Program) × Judg P, s' = s → CallsJ s.2 g a w R → CallsJ s'.2 g a w R := by rintro s s' rfl h; exact h
  exact key C.sig C'.sig h hc
theorem sig_wp {C C' : Cfg} (h : C'.sig = C.sig) {c : Code} {a : Act} {w : World} {Q : Exit → Act → World → Prop} (hc : wpJ C.J c Q a w) : wpJ C'.J c Q a w := by
  have key : ∀ s s' : (P : Program) × Judg P, s' = s → wpJ s.2 c Q a w → wpJ s'.2 c Q a w := by rintro s s' rfl h; exact h
  exact key C.sig C'.sig h hc
theorem sig_loop {C C' : Cfg} (h : C'.sig = C.sig) {c : Code} {a : Act} {w : World} {Q : Exit → Act → World → Prop} (hc : InLoopJ C.J c Q a w) : InLoopJ C'.J c Q a w := by
  have key : ∀ s s' : (P : Program) × Judg P, s' = s → InLoopJ s.2 c Q a w → InLoopJ s'.2 c Q a w := by rintro s s' rfl h; exact h
  exact key C.sig C'.sig h hc
theorem MR.fewer {C C' : Cfg} {B : Nat → Prop} {w0 w : World} {env : Nat → Nat} {mem : Mem} (hgd : ∀ p ∈ C.gd, p ∈ C'.gd) (h : MR C'.bare B w0 env mem w) : MR C.bare B w0 env mem w :=
  ⟨h.below, h.base, h.lt, h.blk, h.sep, (fun p hp => by cases hp), fun p hp => h.gd p (hgd p hp)⟩
theorem PSOk.widen {C C' : Cfg} {g : Nat} {F : List AV → Mem → Option (List Cnd × AV)} (h : PSOk C g F) (hP : C'.sig = C.sig) (hgd : ∀ p ∈ C.gd, p ∈ C'.gd) : PSOk C' g F := by
  obtain ⟨h1, h2⟩ := h
  exact ⟨by rw [sig_P hP]; exact h1, fun args mem r conds hF hp B w0 w env vals hm ha => sig_calls hP (h2 args mem r conds hF hp B w0 w env vals (hm.fewer hgd) ha)⟩
theorem FOk.widen {C C' : Cfg} {g : Nat} {F : List AV → Mem → Option (List Cnd × RT)} (h : FOk C g F) (hP : C'.sig = C.sig) (hgd : ∀ p ∈ C.gd, p ∈ C'.gd) : FOk C' g F := by
  obtain ⟨h1, h2⟩ := h
  exact ⟨by rw [sig_P hP]; exact h1, fun args mem r conds hF hp B w0 w env vals hm ha => sig_calls hP (h2 args mem r conds hF hp B w0 w env vals (hm.fewer hgd) ha)⟩
theorem PSOk.cast {C C' : Cfg} {g : Nat} {F : List AV → Mem → Option (List Cnd × AV)} (h : PSOk C g F) (hP : C'.sig = C.sig) (_ : C'.gl = C.gl) (hgd : C'.gd = C.gd) : PSOk C' g F := h.widen hP (by rw [hgd]; exact fun _ h => h)
inductive Sh where
  | w (k : IntKind)
  | l (k : IntKind) (n : Nat)
  | b
def Sh.len : Sh → Nat
  | .w _ => 1
  | .l _ n => n
  | .b => 1
def Sh.kind : Sh → IntKind
  | .w k => k
  | .l k _ => k
  | .b => .u8
def parse1 (sh : Sh) (x : AV) : Option (Bool × List Int) :=
  match sh, x with
  | .w k, .one (.li k' n) => match kEq k k' with | true => some (true, [n]) | false => none
  | .w k, .one (.si k' n) => match kEq k k' with | true => some (false, [n]) | false => none
  | .l k n, .agg l => match intsOf k l with
    | some es => match Nat.beq es.length n with | true => some (false, es) | false => none
    | none => none
  | .b, .one (.lb c) => some (true, [iteI c 1 0])
  | .b, .one (.sb c) => some (false, [iteI c 1 0])
  | _, _ => none
def parse : List Sh → List AV → Option (Bool × List (List Int))
  | [], [] => some (true, [])
  | sh :: shs, x :: xs => match parse1 sh x, parse shs xs with
    | some (b, es), some (b', ess) => some (b && b', es :: ess)
    | _, _ => none
  | _, _ => none
def mkArg (sh : Sh) (es : List Int) : AV :=
  match sh with
  | .w k => .one (.si k (es.getD 0 0))
  | .l k _ => .agg (es.map (.si k))
  | .b => .one (.sb (es.getD 0 0 != 0))
def mkArgs : List Sh → List (List Int) → List AV
  | sh :: shs, es :: ess => mkArg sh es :: mkArgs shs ess
  | _, _ => []
inductive GP where
  | w (k : IntKind) (e : Int)
  | b (x : Bool)
  | l (k : IntKind) (es : List Int)
inductive GR where
  | p (x : GP)
  | t (l : List GP)
def GP.mk (lit : Bool) : GP → AV
  | .w k e => match lit with | true => .one (.li k e) | false => .one (.si k e)
  | .b x => match lit with | true => .one (.lb x) | false => .one (.sb x)
  | .l k es => .agg (es.map (.si k))
def GP.mkT (lit : Bool) : GP → TV
  | .w k e => match lit with | true => .one (.li k e) | false => .one (.si k e)
  | .b x => match lit with | true => .one (.lb x) | false => .one (.sb x)
  | .l k es => .agg (es.map (.si k))
def GR.mk (lit : Bool) : GR → AV
  | .p x => x.mk lit
  | .t l => .tup (l.map (GP.mkT lit))
def gsum (shs : List Sh) (conds : List (List Int) → List Cnd) (T : List (List Int) → GR) : List AV → Mem → Option (List Cnd × AV) := fun args _ =>
  match parse shs args with
  | some (lit, ess) => some (conds ess, (T ess).mk lit)
  | none => none
def tab (n : Nat) (f : Nat → Int) : List Int := (List.range n).map f
def tabs : List Sh → Nat → (Nat → Nat → Int) → List (List Int)
  | [], _, _ => []
  | sh :: shs, i, fs => tab sh.len (fs i) :: tabs shs (i + 1) fs
def okL (sh : Sh) (es : List Int) : Prop := es.length = sh.len ∧ ∀ e ∈ es, okI sh.kind e
def okLs : List Sh → List (List Int) → Prop
  | [], [] => True
  | sh :: shs, es :: ess => okL sh es ∧ okLs shs ess
  | _, _ => False
theorem intsOf_flat {k : IntKind} : ∀ {l : List SV} {es : List Int}, intsOf k l = some es → l.all SV.flat = true
  | [], _, _ => rfl
  | s :: l, es, h => by
    cases s with
    | li k' n =>
      simp only [intsOf] at h
      split at h
      · rename_i es' hk he; simp [SV.flat, intsOf_flat he]
      · cases h
    | si k' n =>
      simp only [intsOf] at h
      split at h
      · rename_i es' hk he; simp [SV.flat, intsOf_flat he]
      · cases h
    | _ => simp [intsOf] at h
theorem okb (c : Bool) : okL .b [iteI c 1 0] := ⟨rfl, fun e he => by rw [List.mem_singleton.1 he]; cases c <;> decide⟩
theorem parse1_spec {sh : Sh} {x : AV} {b : Bool} {es : List Int} (h : parse1 sh x = some (b, es)) : x.flat = true ∧ ∀ v, x.R (fun _ => 0) 0 v → (mkArg sh es).R (fun _ => 0) 0 v ∧ okL sh es := by
  unfold parse1 at h
  split at h
  · rename_i k k' n
    split at h
    · rename_i hk
      have := kEq_of hk; subst this
      cases h
      exact ⟨rfl, fun v hv => ⟨hv, rfl, fun e he => by rw [List.mem_singleton.1 he]; exact hv.1⟩⟩
    · cases h
  · rename_i k k' n
    split at h
    · rename_i hk
      have := kEq_of hk; subst this
      cases h
      exact ⟨rfl, fun v hv => ⟨hv, rfl, fun e he => by rw [List.mem_singleton.1 he]; exact hv.1⟩⟩
    · cases h
  · rename_i k n l
    split at h
    · rename_i es' he
      split at h
      · rename_i hn
        cases h
        refine ⟨intsOf_flat he, fun v hv => ?_⟩
        obtain ⟨vs, rfl, hl⟩ := hv
        obtain ⟨h1, h2⟩ := intsOf_R he hl
        refine ⟨⟨vs, rfl, ?_⟩, Nat.eq_of_beq_eq_true hn, h2⟩
        rw [h1]
        exact All2.both _ _ es fun e he => ⟨h2 e he, rfl⟩
      · cases h
    · cases h
  · rename_i c
    cases h
    exact ⟨rfl, fun v hv => ⟨by cases c <;> exact hv, okb c⟩⟩
  · rename_i c
    cases h
    exact ⟨rfl, fun v hv => ⟨by cases c <;> exact hv, okb c⟩⟩
  · cases h
theorem parse_spec : ∀ {shs : List Sh} {args : List AV} {b : Bool} {ess : List (List Int)}, parse shs args = some (b, ess) →
    args.all AV.flat = true ∧ ∀ vals, All2 (AV.R (fun _ => 0) 0) args vals → All2 (AV.R (fun _ => 0) 0) (mkArgs shs ess) vals ∧ okLs shs ess
  | [], [], b, ess, h => by cases h; exact ⟨rfl, fun vals hv => ⟨hv, trivial⟩⟩
  | sh :: shs, x :: xs, b, ess, h => by
    simp only [parse] at h
    split at h
    · rename_i b1 es b2 ess' h1 h2
      cases h
      obtain ⟨p1, p2⟩ := parse1_spec h1
      obtain ⟨q1, q2⟩ := parse_spec h2
      refine ⟨by simp [p1, q1], fun vals hv => ?_⟩
      cases vals with
      | nil => exact hv.elim
      | cons v vals =>
        obtain ⟨r1, r2⟩ := p2 v hv.1
        obtain ⟨s1, s2⟩ := q2 vals hv.2
        exact ⟨⟨r1, s1⟩, r2, s2⟩
    · cases h
  | [], _ :: _, _, _, h => by cases h
  | _ :: _, [], _, _, h => by cases h
theorem mk_flat_agg (k : IntKind) (es : List Int) : (es.map (SV.si k)).all SV.flat = true := by
  induction es with
  | nil => rfl
  | cons e es ih => simp [SV.flat, ih]
theorem GP.mk_flat (lit : Bool) (x : GP) : (x.mk lit).flat = true := by
  cases x with
  | w k e => cases lit <;> rfl
  | b x => cases lit <;> rfl
  | l k es => exact mk_flat_agg k es
theorem GP.mkT_flat (lit : Bool) (x : GP) : (x.mkT lit).flat = true := by
  cases x with
  | w k e => cases lit <;> rfl
  | b x => cases lit <;> rfl
  | l k es => exact mk_flat_agg k es
theorem GR.mk_flat (lit : Bool) (x : GR) : (x.mk lit).flat = true := by
  cases x with
  | p x => exact x.mk_flat lit
  | t l =>
    show (l.map (GP.mkT lit)).all TV.flat = true
    induction l with
    | nil => rfl
    | cons x l ih => simp [GP.mkT_flat, ih]
theorem GP.mk_R {lit : Bool} {x : GP} {v : Value} (h : (x.mk false).R (fun _ => 0) 0 v) : (x.mk lit).R (fun _ => 0) 0 v := by
  cases x with
  | w k e => cases lit <;> exact h
  | b x => cases lit <;> exact h
  | l k es => exact h
theorem GP.mkT_R {lit : Bool} {x : GP} {v : Value} (h : (x.mkT false).R (fun _ => 0) 0 v) : (x.mkT lit).R (fun _ => 0) 0 v := by
  cases x with
  | w k e => cases lit <;> exact h
  | b x => cases lit <;> exact h
  | l k es => exact h
theorem GR.mk_R {lit : Bool} {x : GR} {v : Value} (h : (x.mk false).R (fun _ => 0) 0 v) : (x.mk lit).R (fun _ => 0) 0 v := by
  cases x with
  | p x => exact GP.mk_R h
  | t l =>
    obtain ⟨vs, hv, hl⟩ := h
    refine ⟨vs, hv, ?_⟩
    clear hv
    induction l generalizing vs with
    | nil => exact hl
    | cons x l ih =>
      cases vs with
      | nil => exact hl.elim
      | cons v vs => exact ⟨GP.mkT_R hl.1, ih vs hl.2⟩
theorem tab_self {n : Nat} {es : List Int} (h : es.length = n) : tab n (fun i => es.getD i 0) = es := by
  subst h
  apply List.ext_getElem
  · simp [tab]
  · intro i h1 h2
    simp [tab, h2]
theorem tabs_self : ∀ {shs : List Sh} {ess : List (List Int)} (i : Nat) (fs : Nat → Nat → Int), okLs shs ess → (∀ j es, ess[j]? = some es → fs (i + j) = fun m => es.getD m 0) → tabs shs i fs = ess
  | [], [], _, _, _, _ => rfl
  | sh :: shs, es :: ess, i, fs, h, hf => by
    have h0 := hf 0 es rfl
    simp only [Nat.add_zero] at h0
    rw [tabs, h0, tab_self h.1.1, tabs_self (i + 1) fs h.2 fun j es' hj => by rw [← hf (j + 1) es' (by simpa using hj)]; congr 1; omega]
  | [], _ :: _, _, _, h, _ => h.elim
  | _ :: _, [], _, _, h, _ => h.elim
theorem mkArgs_flat : ∀ (shs : List Sh) (ess : List (List Int)), (mkArgs shs ess).all AV.flat = true
  | [], _ => rfl
  | _ :: _, [] => rfl
  | sh :: shs, es :: ess => by
    simp only [mkArgs, List.all_cons, Bool.and_eq_true]
    refine ⟨?_, mkArgs_flat shs ess⟩
    cases sh with
    | w k => rfl
    | l k n => exact mk_flat_agg k es
    | b => rfl
theorem psok_g {C : Cfg} (hC : COk C) (hgl : C.gl = glFrom 0 C.gd) {g : Nat} {fn : Func} (hfn : FnOk C.P g fn) (hb : fn.body.isSome = true) {shs : List Sh} {conds : List (List Int) → List Cnd} {T : List (List Int) → GR} (n : Nat)
    (H : ∀ fs : Nat → Nat → Int, okLs shs (tabs shs 0 fs) → allP (conds (tabs shs 0 fs)) → (callA C false n fn (mkArgs shs (tabs shs 0 fs)) (memG C.gd)).sat fun v _ => v.flat = true ∧ ∀ val, v.R (fun _ => 0) 0 val → ((T (tabs shs 0 fs)).mk false).R (fun _ => 0) 0 val) :
    PSOk C g (gsum shs conds T) := by
  refine psok_of hC hgl hfn hb (fun args mem r cs hF => ?_) (fun args mem r cs hF hp vals ha => ?_)
  · unfold gsum at hF
    split at hF
    · rename_i lit ess hpa
      cases hF
      exact ⟨(parse_spec hpa).1, GR.mk_flat _ _⟩
    · cases hF
  · unfold gsum at hF
    split at hF
    · rename_i lit ess hpa
      cases hF
      obtain ⟨h1, h2⟩ := (parse_spec hpa).2 vals ha
      have ht := tabs_self 0 (fun j m => (ess.getD j []).getD m 0) h2 (fun j es hj => by funext m; simp [hj])
      have := H (fun j m => (ess.getD j []).getD m 0)
      rw [ht] at this
      refine ⟨mkArgs shs ess, n, h1, mkArgs_flat _ _, ?_⟩
      have h3 := this h2 hp
      have mono : ∀ {K K' : AV → Mem → Prop} (o : Out), (∀ v m, K v m → K' v m) → o.sat K → o.sat K' := by
        intro K K' o hk
        induction o with
        | bad _ => exact id
        | need p o ih => exact fun h => ⟨h.1, ih h.2⟩
        | br c t f iht ihf => exact fun h => ⟨fun e => iht (h.1 e), fun e => ihf (h.2 e)⟩
        | both a b iha ihb => exact fun h => ⟨iha h.1, ihb h.2⟩
        | done v m => exact hk v m
      exact mono _ (fun v _ ⟨q1, q2⟩ => ⟨q1, fun val hv => GR.mk_R (q2 val hv)⟩) h3
    · cases hF
theorem psok_e {C : Cfg} (hC : COk C) {G : List (Nat × List SV)} (hG : C.gd = G) (hgl : C.gl = glFrom 0 G) {g : Nat} {fn : Func} (hfn : FnOk C.P g fn) (hb : fn.body.isSome = true) {shs : List Sh} {conds : List (List Int) → List Cnd} {T : List (List Int) → GR} (n : Nat)
    (args : (Nat → Nat → Int) → List AV) (ha : ∀ fs, mkArgs shs (tabs shs 0 fs) = args fs)
    (H : ∀ fs : Nat → Nat → Int, okLs shs (tabs shs 0 fs) → allP (conds (tabs shs 0 fs)) → ∃ o, callA C false n fn (args fs) (memG G) = o ∧ o.sat fun v _ => v.flat = true ∧ ∀ val, v.R (fun _ => 0) 0 val → ((T (tabs shs 0 fs)).mk false).R (fun _ => 0) 0 val) :
    PSOk C g (gsum shs conds T) := by
  subst hG
  refine psok_g hC hgl hfn hb n fun fs h1 h2 => ?_
  obtain ⟨o, ho, hs⟩ := H fs h1 h2
  rw [ha fs, ho]
  exact hs
theorem sat_same {x : GR} {v : AV} (h : v = x.mk false) : v.flat = true ∧ ∀ val, v.R (fun _ => 0) 0 val → (x.mk false).R (fun _ => 0) 0 val := by subst h; exact ⟨GR.mk_flat _ _, fun _ h => h⟩
def SV.sym : SV → SV
  | .li k n => .si k n
  | .lb b => .sb b
  | s => s
def TV.sym : TV → TV
  | .one s => .one s.sym
  | .agg l => .agg (l.map SV.sym)
def AV.sym : AV → AV
  | .one s => .one s.sym
  | .agg l => .agg (l.map SV.sym)
  | .tup l => .tup (l.map TV.sym)
theorem SV.sym_R {env : Nat → Nat} {m : Nat} {s : SV} {v : Value} (h : s.R env m v) : s.sym.R env m v := by cases s <;> exact h
theorem all2_sym {α : Type} {f : α → α} {R : α → Value → Prop} (hf : ∀ a v, R a v → R (f a) v) : ∀ {l : List α} {vs : List Value}, All2 R l vs → All2 R (l.map f) vs
  | [], [], _ => trivial
  | _ :: _, _ :: _, h => ⟨hf _ _ h.1, all2_sym hf h.2⟩
  | [], _ :: _, h => h.elim
  | _ :: _, [], h => h.elim
theorem TV.sym_R {env : Nat → Nat} {m : Nat} {s : TV} {v : Value} (h : s.R env m v) : s.sym.R env m v := by
  cases s with
  | one s => exact SV.sym_R h
  | agg l => obtain ⟨vs, h1, h2⟩ := h; exact ⟨vs, h1, all2_sym (fun _ _ => SV.sym_R) h2⟩
theorem AV.sym_R {env : Nat → Nat} {m : Nat} {s : AV} {v : Value} (h : s.R env m v) : s.sym.R env m v := by
  cases s with
  | one s => exact SV.sym_R h
  | agg l => obtain ⟨vs, h1, h2⟩ := h; exact ⟨vs, h1, all2_sym (fun _ _ => SV.sym_R) h2⟩
  | tup l => obtain ⟨vs, h1, h2⟩ := h; exact ⟨vs, h1, all2_sym (fun _ _ => TV.sym_R) h2⟩
theorem sat_sym {x : GR} {v : AV} (h : v.sym = x.mk false) (hf : v.flat = true) : v.flat = true ∧ ∀ val, v.R (fun _ => 0) 0 val → (x.mk false).R (fun _ => 0) 0 val := ⟨hf, fun _ hv => h ▸ AV.sym_R hv⟩
def behind (mem : Mem) (k : IntKind) (n : Nat) (x : AV) : Option (List Int) :=
  match x with
  | .one (.ptr b o) => match Nat.beq o 0, (mem.get b).bind AB.get? with
    | true, some l => match intsOf k l with
      | some es => match Nat.beq es.length n with | true => some es | false => none
      | none => none
    | _, _ => none
  | _ => none
end Go.Ax

namespace Go.Ax
open Go Go.RowKit
def loneJ (P : Program) : Judg P where
  main := true
  lvl := 0
  rel := Eq
  closed S := ∀ fr cs w fr' cs' w', step P (lone fr cs w) = .next (lone fr' cs' w') → S fr' cs' w' → S fr cs w
  refl _ := rfl
  trans _ _ _ := Eq.trans
  drawn a b h := ⟨a.drawn, by subst h; rfl⟩
  world S fr cs w w1 _ h hs := h ▸ hs
  move0 S fr cs fr' cs' w hS h hn := hS _ _ _ _ _ _ (step_lone_go (by
    have := h w
    simp only [gor] at this
    rw [this]; rfl)) hn
  sem S fr cs w α s ok f hS hns hst hun hstep h := by
    obtain ⟨hok, hn⟩ := h w rfl
    obtain ⟨es, he, _⟩ := hstep w hok
    refine hS _ _ _ _ _ _ (step_lone_go ?_) hn
    simp only [gor] at he
    rw [he]; rfl
theorem CallsL.alone {P : Program} {f : FuncId} {args : Array Value} {w : World} {R : Ending → World → Prop} (h : CallsL (loneJ P) f args w R) : Calls P f args w R := by
  intro cs
  let S : SetS := fun fr cs' w' => ∃ e w2 fr2, R e w2 ∧ Steps P (lone fr cs' w') (lone fr2 cs w2) ∧ fr2.fn = f ∧ fr2.leaving P w2 e ∧ e ≠ .outgrown
  have hS : (loneJ P).closed S := fun fr cs' w' fr' cs'' w'' hs ⟨e, w2, fr2, h1, h2, h3⟩ => ⟨e, w2, fr2, h1, .head hs h2, h3⟩
  obtain ⟨e, w2, fr2, h1, h2, h3, h4, h5⟩ := h cs S hS fun fr w' hE => by
    obtain ⟨hff, hk, hd, fn, hf, hE⟩ := hE
    rcases hE with ⟨hm, hE⟩ | ⟨v, hm, hE⟩
    · obtain ⟨v, hv, hr⟩ := hE w' rfl
      exact ⟨.returned v, w', fr, hr, Steps.refl _ _, hff, ⟨hm, hd, hk, fn, by rw [hff]; exact hf, hv⟩, by simp⟩
    · exact ⟨.panicked _, w', fr, hE, Steps.refl _ _, hff, ⟨hm, hd, fn, by rw [hff]; exact hf⟩, by simp⟩
  refine ⟨e, w2, fr2, h1, ?_, h3, h4⟩
  cases e with
  | returned v => exact h2
  | panicked ch => exact h2
  | outgrown => exact absurd rfl h5
end Go.Ax

namespace Go.Ax
open Go Go.RowKit Go.ChangeShapes Go.WideShapes Go.ChangeAt
theorem trodAll_below {H : Type} {enc : TypeId × Value → H} {P : Program} (hl : laidOutB P = true) {W W' : World} (hb : Below W.heap.size W W') :
    ∀ {ts : List TypeId} {vs : List Value} {ds : List (DataW H)} {ps : List MemPlace}, (ts.all fun t => P.readableRec t && decide (t < P.types.size)) = true →
      DataW.TrodAll enc P W 0 (fun _ => true) true ts vs ds ps → (∀ x ∈ ps, x.block < W.heap.size) → DataW.TrodAll enc P W' 0 (fun b => decide (b < W.heap.size)) true ts vs ds ps
  | [], [], [], _, _, h, _ => h
  | t :: ts, v :: vs, d :: ds, ps, hr, h, hlt => by
    simp only [List.all_cons, Bool.and_eq_true, decide_eq_true_eq] at hr
    obtain ⟨p, q, h1, h2, rfl⟩ := h
    exact ⟨p, q, Below.trod hl hr.1.1 hr.1.2 h1 hb (fun x hx => hlt x (List.mem_append_left _ hx)), trodAll_below hl hb hr.2 h2 (fun x hx => hlt x (List.mem_append_right _ hx)), rfl⟩
  | [], [], _ :: _, _, _, h, _ => h.elim
  | [], _ :: _, _, _, _, h, _ => by cases h
  | _ :: _, [], _, _, _, h, _ => by cases h
  | _ :: _, _ :: _, [], _, _, h, _ => by cases h
theorem law_post {H : Type} {enc : TypeId × Value → H} {P : Program} {fn : Func} {s : ChangeSpec} {bt : TypeId} (hv : s.vars = []) (hl : laidOutB P = true) (hp : (fn.params.toList.all fun t => P.readableRec t && decide (t < P.types.size)) = true)
    (hres : fn.resultTypes = #[bt]) (hbt : P.underlying bt = some .bool) (hfn : ∀ ds : List (DataW H), ds.length = fn.params.toList.length → s.fn H ds = { results := [.lit (.bool true)], args := ds })
    {W W' : World} {args : Array Value} {ds gs : List (DataW H)} {before : List MemPlace} (hW : DataW.Whole enc P fn.params.toList s.vars false W args.toList ds gs before) (hb : Below W.heap.size W W') :
    s.post enc P fn false true false false W args (.bool true) W' := by
  have hW' := hW
  have hlt := hW.lt
  obtain ⟨p, q, hA, hV, rfl, _, _⟩ := hW
  rw [hv] at hV
  obtain ⟨rfl, rfl⟩ := trodVars_none hV
  have hlen : ds.length = fn.params.toList.length := by
    have key : ∀ {ts : List TypeId} {vs : List Value} {ds : List (DataW H)} {ps : List MemPlace}, DataW.TrodAll enc P W 0 (fun _ => true) true ts vs ds ps → ds.length = ts.length := by
      intro ts
      induction ts with
      | nil => intro vs ds ps h; cases vs <;> cases ds <;> first | rfl | exact h.elim | cases h
      | cons t ts ih =>
        intro vs ds ps h
        cases vs with
        | nil => cases ds <;> first | exact h.elim | cases h
        | cons v vs =>
          cases ds with
          | nil => exact h.elim
          | cons d ds => obtain ⟨p, q, _, h2, _⟩ := h; simp [ih h2]
    exact key hA
  have hf := hfn ds hlen
  refine ⟨ds, [], p ++ [], [], p, [], hW', ?_, ?_, ?_, Below.frame hb _, fun h => by cases h⟩
  · rw [List.append_nil, hf, hres]
    exact trodAll_mk1 (shut_bool hbt true)
  · rw [List.append_nil, hf]
    exact trodAll_below hl hb hp hA (fun x hx => hlt x (List.mem_append_left _ hx))
  · rw [List.append_nil, hf, hv]
    rfl
def ofKind (P : Program) (k : IntKind) (x : TypeId) : Bool := match P.underlying x with | some (.int k') => kEq k k' | _ => false
def rowSh (P : Program) (t : TypeId) : Option Sh :=
  match P.cellTypes P.depth t with
  | some (u :: us) => match P.underlying u with
    | some (.int k) => match us.all (ofKind P k) with
      | true => some (.l k (P.cellsOf t))
      | false => none
    | _ => none
  | _ => none
def shOf (P : Program) (t : TypeId) : Option Sh :=
  match P.underlying t with
  | some (.int k) => some (.w k)
  | some .bool => some .b
  | some (.array _ _) => rowSh P t
  | some (.struct _) => rowSh P t
  | _ => none
theorem cell_int {P : Program} {W : World} {r : Reach} {base : Nat} {u : TypeId} {k : IntKind} {v : Value} (hu : P.underlying u = some (.int k)) (h : Cell.okWide P W r base u v) : ∃ n, v = Value.int k n ∧ okI k n := by
  unfold Cell.okWide at h
  rw [hu] at h
  cases v <;> simp [Cell.ok, hu] at h
  rename_i k' n
  obtain ⟨rfl, h2⟩ := h
  exact ⟨n, rfl, h2⟩
theorem shOf_R {P : Program} {W : World} {r : Reach} {base : Nat} {t : TypeId} {sh : Sh} {v : Value} (hs : shOf P t = some sh) (h : Value.okWide P W r base t v) :
    ∃ es, okL sh es ∧ (mkArg sh es).R (fun _ => 0) 0 v := by
  unfold shOf at hs
  have row : ∀ cs : Array Value, v = .agg cs → cs.size = P.cellsOf t → Row.okWide P W r base t cs → rowSh P t = some sh → ∃ es, okL sh es ∧ (mkArg sh es).R (fun _ => 0) 0 v := by
    intro cs hv hsz hrow hs
    obtain ⟨ts, hts, _, hcell⟩ := hrow
    unfold rowSh at hs
    rw [hts] at hs
    split at hs
    · rename_i u us hts'
      obtain rfl := Option.some.inj hts'
      split at hs
      · rename_i k hk
        split at hs
        · rename_i hall
          cases hs
          have hint : ∀ (i : Nat) (v : Value), cs[i]? = some v → ∃ n, v = Value.int k n ∧ okI k n := fun i v hi => by
            obtain ⟨x, hx, hc⟩ := hcell i v hi
            have hux : P.underlying x = some (.int k) := by
              rcases List.mem_cons.1 (List.mem_of_getElem? hx) with rfl | hx'
              · exact hk
              · have := List.all_eq_true.1 hall x hx'
                unfold ofKind at this
                split at this
                · rename_i k' hk'
                  rw [hk', kEq_of this]
                · cases this
            exact cell_int hux hc
          have hlist : ∀ l : List Value, (∀ (i : Nat) (v : Value), l[i]? = some v → ∃ n, v = Value.int k n ∧ okI k n) → ∃ es : List Int, l = es.map (Value.int k) ∧ ∀ e ∈ es, okI k e := by
            intro l
            induction l with
            | nil => intro _; exact ⟨[], rfl, by simp⟩
            | cons a l ih =>
              intro h
              obtain ⟨n, rfl, hn⟩ := h 0 a rfl
              obtain ⟨es, rfl, he⟩ := ih fun i v hi => h (i + 1) v (by simpa using hi)
              exact ⟨n :: es, rfl, by simpa using ⟨hn, he⟩⟩
          obtain ⟨es, he, hok⟩ := hlist cs.toList fun i v hi => hint i v (by simpa using hi)
          refine ⟨es, ⟨?_, hok⟩, cs.toList, by simp [hv], ?_⟩
          · have : es.length = cs.size := by rw [← Array.length_toList, he]; simp
            exact this.trans hsz
          · rw [he]
            exact All2.both _ _ es fun e he => ⟨hok e he, rfl⟩
        · cases hs
      · cases hs
    · cases hs
  unfold Value.okWide at h
  cases hu : P.underlying t with
  | none => rw [hu] at hs; cases hs
  | some d =>
    rw [hu] at h hs
    cases d with
    | int k =>
      cases hs
      obtain ⟨n, rfl, hn⟩ := cell_int hu h
      exact ⟨[n], ⟨rfl, fun e he => by rw [List.mem_singleton.1 he]; exact hn⟩, hn, rfl⟩
    | bool =>
      cases hs
      obtain ⟨c, rfl⟩ : ∃ c, v = Value.bool c := by
        simp only at h
        unfold Cell.okWide at h
        rw [hu] at h
        cases v <;> simp [Cell.ok, hu] at h
        exact ⟨_, rfl⟩
      exact ⟨[iteI c 1 0], okb c, by cases c <;> exact ⟨trivial, rfl⟩⟩
    | array n e => obtain ⟨cs, h1, h2, h3⟩ := h; exact row cs h1 h2 h3 hs
    | struct fs => obtain ⟨cs, h1, h2, h3⟩ := h; exact row cs h1 h2 h3 hs
    | _ => cases hs
theorem gd_of_tab {P : Program} {W : World} {name : String} {k : IntKind} {zs : List Int} {g : Nat} (hg : P.globalNamed name = some g) (h : Lib.TabIs P W name k zs) (hz : ∀ z ∈ zs, okI k z) :
    g < W.heap.size ∧ ∃ (vs rest : List Value) (t : TypeId) (fr : Nat × Nat), W.heap[g]? = some (.cells (vs ++ rest).toArray t fr) ∧ All2 (SV.R (fun _ => 0) 0) (zs.map (SV.li k)) vs := by
  unfold Lib.TabIs World.var? at h
  rw [hg] at h
  simp only [Option.bind_some] at h
  split at h
  · rename_i cs t fr hc
    refine ⟨(Array.getElem?_eq_some_iff.1 hc).1, zs.map (Value.int k), [], t, fr, ?_, All2.both _ _ zs fun z hz' => ⟨hz z hz', rfl⟩⟩
    rw [hc, Option.some.inj h, List.append_nil]
  · cases h
end Go.Ax

namespace Go.Ax
open Go Go.RowKit
def endAt (P : AE → TM → Mem → Prop) : AE → TM → Mem → Out := fun e tm mem => .need (P e tm mem) (.done .any Mem.empty)
theorem body_step {C : Cfg} (hC : COk C) {n : Nat} {body : Code} {tm : TM} {mem : Mem} {P : AE → TM → Mem → Prop} (h : (exec C n (.run body) tm mem (endAt P)).sat (fun _ _ => True))
    {B : Nat → Prop} {w0 : World} {env : Nat → Nat} {a : Act} {w : World} (hr : Rel C B w0 env tm mem a w) {Q : Exit → Act → World → Prop}
    (hk : ∀ e tm' mem' env' a' w', P e tm' mem' → Rel C B w0 env' tm' mem' a' w' → Ext env mem.n env' mem'.n → Q e.conc a' w') : wpJ C.J body Q a w :=
  exec_ok hC n (.run body) tm mem (endAt P) h B w0 env a w Q hr fun e tm' mem' env' a' w' q1 q2 q3 => hk e tm' mem' env' a' w' q1.1 q2 q3
theorem Rel.less {C : Cfg} {B : Nat → Prop} {w0 w : World} {env : Nat → Nat} {tm tm' : TM} {mem : Mem} {a : Act} (h : Rel C B w0 env tm mem a w) (hs : tm'.sz = tm.sz) (hd : tm'.df = tm.df)
    (ht : ∀ t env m v, (tm.get t).R env m v → (tm'.get t).R env m v) : Rel C B w0 env tm' mem a w :=
  ⟨h.size.trans hs.symm, fun t => ht t _ _ _ (h.tmp t), hd ▸ h.defers, h.mem⟩
def loopsOf : Code → List Code
  | .seq a b => loopsOf a ++ loopsOf b
  | .cond _ a b => loopsOf a ++ loopsOf b
  | .block _ a => loopsOf a
  | .loop a => a :: loopsOf a
  | .scope a => loopsOf a
  | _ => []
def loopAt (fn : Func) (i : Nat) : Code := match fn.body with | some c => (loopsOf c).getD i .skip | none => .skip
def slots (sz : Nat) : List (Nat × AV) → TM
  | [] => ⟨sz, Tr.mk 10, []⟩
  | p :: l => (slots sz l).set p.1 p.2
theorem slots_sz {sz : Nat} : ∀ {l : List (Nat × AV)}, (slots sz l).sz = sz
  | [] => rfl
  | _ :: _ => (set_sz _ _ _).trans slots_sz
theorem slots_df {sz : Nat} : ∀ {l : List (Nat × AV)}, (slots sz l).df = []
  | [] => rfl
  | _ :: _ => (set_df _ _ _).trans slots_df
theorem slots_R {sz : Nat} {env : Nat → Nat} {m : Nat} {t : Nat} {v : Value} : ∀ {l : List (Nat × AV)}, (∀ p ∈ l, p.1 = t → p.2.R env m v) → ((slots sz l).get t).R env m v
  | [], _ => by simp only [slots, TM.get]; rw [Tr.get_mk]; exact AV.R_any
  | p :: l, h => by
    simp only [slots]
    by_cases hp : p.1 = t
    · unfold TM.set
      split
      · simp only [TM.get]
        rw [hp]
        cases hq : ((slots sz l).t.set t p.2).get t with
        | none => exact AV.R_any
        | some y => rw [Tr.get_set_eq _ _ _ _ hq]; exact h p (List.mem_cons_self ..) hp
      · exact slots_R fun q hq => h q (List.mem_cons_of_mem _ hq)
    · rw [show ((slots sz l).set p.1 p.2).get t = (slots sz l).get t from by
        unfold TM.set
        split
        · simp only [TM.get]; rw [Tr.get_set_ne _ _ _ _ hp]
        · rfl]
      exact slots_R fun q hq => h q (List.mem_cons_of_mem _ hq)
theorem Rel.slots {C : Cfg} {B : Nat → Prop} {w0 w : World} {env : Nat → Nat} {tm : TM} {mem : Mem} {a : Act} (h : Rel C B w0 env tm mem a w) {sz : Nat} (hs : tm.sz = sz) (hd : tm.df = []) {l : List (Nat × AV)}
    (hl : ∀ p ∈ l, ∀ env m v, (tm.get p.1).R env m v → p.2.R env m v) : Rel C B w0 env (slots sz l) mem a w :=
  h.less (slots_sz.trans hs.symm) (slots_df.trans hd.symm) fun t _ _ _ hv => slots_R fun p hp ht => by subst ht; exact hl p hp _ _ _ hv
theorem MR.cast {C C' : Cfg} {B : Nat → Prop} {w0 w : World} {env : Nat → Nat} {mem : Mem} (hgl : C'.gl = C.gl) (hgd : C'.gd = C.gd) (h : MR C B w0 env mem w) : MR C' B w0 env mem w :=
  ⟨h.below, h.base, h.lt, h.blk, h.sep, by rw [hgl]; exact h.gl, by rw [hgd]; exact h.gd⟩
theorem Rel.cast {C C' : Cfg} {B : Nat → Prop} {w0 w : World} {env : Nat → Nat} {tm : TM} {mem : Mem} {a : Act} (hgl : C'.gl = C.gl) (hgd : C'.gd = C.gd) (h : Rel C B w0 env tm mem a w) : Rel C' B w0 env tm mem a w :=
  ⟨h.size, h.tmp, h.defers, h.mem.cast hgl hgd⟩
theorem LoopOk.cast {C C' : Cfg} {bd : Code} {F : TM → Mem → Option (List Cnd × AE × TM × Mem)} (hP : C'.sig = C.sig) (hgl : C'.gl = C.gl) (hgd : C'.gd = C.gd) (h : LoopOk C bd F) : LoopOk C' bd F := by
  intro tm mem ps e tm' mem' hF hp B w0 env a w Q hr hk
  exact sig_wp hP (h tm mem ps e tm' mem' hF hp B w0 env a w Q (hr.cast hgl.symm hgd.symm) fun env' a' w' hr' hE => hk env' a' w' (hr'.cast hgl hgd) hE)
def memX (gd : List (Nat × List SV)) (xs : List AB) : Mem := ⟨gd.length + xs.length, Tr.ofList (Tr.mk 14) 0 ((gd.map fun p => .ro p.2) ++ xs)⟩
def envX (gd : List (Nat × List SV)) (es : List Nat) (i : Nat) : Nat := match (gd[i]?).map (·.1) with | some g => g | none => es.getD (i - gd.length) 0
theorem envX_at {gd : List (Nat × List SV)} {es : List Nat} (j : Nat) : envX gd es (gd.length + j) = es.getD j 0 := by
  unfold envX
  rw [List.getElem?_eq_none (by omega)]
  simp
theorem MR.focusE {C : Cfg} {B : Nat → Prop} {w : World} (hgl : C.gl = glFrom 0 C.gd) (hgd : GDp C.gd B w) (hB : ∀ b, B b → b < w.heap.size) {xs : List AB} {es : List Nat}
    (hx : ∀ (j : Nat) (ab : AB), xs[j]? = some ab → ab.R (envX C.gd es) (C.gd.length + xs.length) B w (es.getD j 0))
    (hs : ∀ (i j : Nat) (a b : AB), xs[i]? = some a → xs[j]? = some b → i ≠ j → a.wr = true → b.wr = true → es.getD i 0 ≠ es.getD j 0) : MR C B w (envX C.gd es) (memX C.gd xs) w := by
  have hold : ∀ i ab, (memX C.gd xs).get i = some ab → (i < C.gd.length ∧ ∃ p, C.gd[i]? = some p ∧ ab = .ro p.2) ∨ (∃ j, i = C.gd.length + j ∧ xs[j]? = some ab) := by
    intro i ab hi
    rcases ofList_get _ _ _ _ _ hi with h | ⟨_, h⟩
    · rw [Tr.get_mk] at h; cases h
    · simp only [Nat.sub_zero] at h
      by_cases hl : i < C.gd.length
      · rw [List.getElem?_append_left (by simpa using hl), List.getElem?_map] at h
        obtain ⟨p, hp, rfl⟩ := Option.map_eq_some_iff.1 h
        exact .inl ⟨hl, p, hp, rfl⟩
      · rw [List.getElem?_append_right (by simpa using hl)] at h
        exact .inr ⟨i - C.gd.length, by omega, by simpa using h⟩
  refine ⟨Keep.refl _ _, hB, fun i ab hi => ?_, fun i ab hi => ?_, fun i j a b hi hj hne ha hb => ?_, fun p hp => ?_, hgd⟩
  · show i < C.gd.length + xs.length
    rcases hold i ab hi with ⟨h, _⟩ | ⟨j, rfl, h⟩
    · omega
    · have := (List.getElem?_eq_some_iff.1 h).1; omega
  · rcases hold i ab hi with ⟨_, p, hp, rfl⟩ | ⟨j, rfl, h⟩
    · obtain ⟨h1, vs, rest, t, fr, h2, h3⟩ := hgd p (List.mem_of_getElem? hp)
      have he : envX C.gd es i = p.1 := by unfold envX; rw [hp]; rfl
      rw [he]
      exact ⟨vs, rest, t, fr, h2, h3.imp fun _ _ => SV.R_ext ⟨Nat.zero_le _, fun _ hi => absurd hi (Nat.not_lt_zero _)⟩, h1⟩
    · rw [envX_at]; exact hx j ab h
  · rcases hold i a hi with ⟨_, p, _, rfl⟩ | ⟨i', rfl, h1⟩
    · cases ha
    · rcases hold j b hj with ⟨_, p, _, rfl⟩ | ⟨j', rfl, h2⟩
      · cases hb
      · rw [envX_at, envX_at]; exact hs i' j' a b h1 h2 (by omega) ha hb
  · rw [hgl] at hp
    obtain ⟨j, h1, q, h2, h3⟩ := mem_glFrom hp
    have hj : p.2 = j := by omega
    rw [hj]
    have hl := (List.getElem?_eq_some_iff.1 h2).1
    refine ⟨by unfold envX; rw [h2]; exact h3, ?_⟩
    show j < C.gd.length + xs.length
    omega
end Go.Ax

namespace Go.Ax
open Go Go.RowKit
inductive SE where
  | w (k : IntKind)
  | l (k : IntKind) (n : Nat)
  | s (k : IntKind)
  | b
inductive SH where
  | one (e : SE)
  | grp (l : List SE)
def SH.ents : SH → List SE
  | .one e => [e]
  | .grp l => l
def entsQ (shs : List SH) : List SE := shs.flatMap SH.ents
def parseE (mem : Mem) : SE → AV → Option (List Cnd × List Int)
  | .w k, x => match x.num with
    | some (k', n) => if kEq k k' then some ([], [n]) else none
    | none => none
  | .l k n, .agg l => match intsOf k l with
    | some es => if Nat.beq es.length n then some ([], es) else none
    | none => none
  | .s k, x => match srcQ mem k x with
    | some (ps, k', M) => if kEq k k' then some (ps, M) else none
    | none => none
  | .b, x => match x.bool? with
    | some (_, c) => some ([], [iteI c 1 0])
    | none => none
  | _, _ => none
def parseEs (mem : Mem) : List SE → List AV → Option (List Cnd × List (List Int))
  | [], [] => some ([], [])
  | sh :: shs, x :: xs => match parseE mem sh x, parseEs mem shs xs with | some (ps, es), some (qs, ess) => some (ps ++ qs, es :: ess) | _, _ => none
  | _, _ => none
def SH.parts : SH → AV → Option (List AV)
  | .one _, x => some [x]
  | .grp l, .agg cs => match Nat.beq cs.length l.length with | true => some (cs.map .one) | false => none
  | _, _ => none
def openQ : List SH → List AV → Option (List AV)
  | [], [] => some []
  | sh :: shs, x :: xs => match sh.parts x, openQ shs xs with | some a, some b => some (a ++ b) | _, _ => none
  | _, _ => none
def AV.cell1 : AV → SV
  | .one s => s
  | _ => .any
def groupQ : List SH → List AV → List AV
  | [], _ => []
  | .one _ :: shs, xs => xs.headD .any :: groupQ shs (xs.drop 1)
  | .grp l :: shs, xs => .agg ((xs.take l.length).map AV.cell1) :: groupQ shs (xs.drop l.length)
def fsum (shs : List SH) (conds : List (List Int) → List Cnd) (T : List (List Int) → RT) : List AV → Mem → Option (List Cnd × RT) := fun args mem =>
  match openQ shs args with
  | some fl => match parseEs mem (entsQ shs) fl with
    | some (ps, ess) => some (ps ++ conds ess, T ess)
    | none => none
  | none => none
def SE.ok : SE → List Int → Prop
  | .w k, es => es.length = 1 ∧ ∀ x ∈ es, okI k x
  | .l k n, es => es.length = n ∧ ∀ x ∈ es, okI k x
  | .s k, es => es.length ≤ 9223372036854775807 ∧ ∀ x ∈ es, okI k x
  | .b, es => es = [0] ∨ es = [1]
def argE (b : Nat) (M : List Int) : SE → AV
  | .w k => .one (.si k (M.getD 0 0))
  | .l k n => .agg ((tab n fun i => M.getD i 0).map (.si k))
  | .s _ => .one (.slr b (b + 1) 0 M.length)
  | .b => .one (.sb (M.getD 0 0 != 0))
def blkE (g : Nat) (M : List Int) : SE → AB
  | .s k => .rseq k M g
  | _ => .gone
def argsE (b : Nat) (Ms : Nat → List Int) : Nat → List SE → List AV
  | _, [] => []
  | i, sh :: shs => argE (b + 2 * i) (Ms i) sh :: argsE b Ms (i + 1) shs
def blksE (b : Nat) (Ms : Nat → List Int) : Nat → List SE → List AB
  | _, [] => []
  | i, sh :: shs => blkE (b + 2 * i + 1) (Ms i) sh :: .gone :: blksE b Ms (i + 1) shs
def dataE (Ms : Nat → List Int) : Nat → List SE → List (List Int)
  | _, [] => []
  | i, _ :: shs => Ms i :: dataE Ms (i + 1) shs
def okE (Ms : Nat → List Int) : Nat → List SE → Prop
  | _, [] => True
  | i, sh :: shs => sh.ok (Ms i) ∧ okE Ms (i + 1) shs
def RC.sat (mem : Mem) : RC → SV → List Nat → Prop
  | .i k x, v, js => v.sym = .si k x ∧ js = []
  | .b x, v, js => v.sym = .sb x ∧ js = []
  | .s t k L, v, js => (∃ j g n, v = .sq j g 0 n ∧ mem.get j = some (.seq t k L g) ∧ n = L.length ∧ js = [j]) ∨ (∃ j n l, v = .slice j 0 n n ∧ mem.get j = some (.cells t l) ∧ intsOf k l = some L ∧ n = l.length ∧ js = [j])
  | .e, v, js => (v = .e0 ∨ v = .raw (.slice none 0 0) ∨ ∃ j o, v = .slice j o 0 0) ∧ js = []
def satRC (mem : Mem) : List RC → List SV → List Nat → Prop
  | [], [], js => js = []
  | r :: rs, v :: vs, js => ∃ a b, js = a ++ b ∧ r.sat mem v a ∧ satRC mem rs vs b
  | _, _, _ => False
def RP.asmA : RP → List SV → TV → Prop
  | .c _, vs, v => ∃ s, vs = [s] ∧ v = .one s
  | .g _, vs, v => v = .agg vs
def asmAP : List RP → List SV → List TV → Prop
  | [], vs, ps => vs = [] ∧ ps = []
  | r :: rs, vs, ps => ∃ a b p qs, vs = a ++ b ∧ ps = p :: qs ∧ a.length = r.cells.length ∧ r.asmA a p ∧ asmAP rs b qs
def RS.asmA : RS → List SV → AV → Prop
  | .p (.c _), vs, v => ∃ s, vs = [s] ∧ v = .one s
  | .p (.g _), vs, v => v = .agg vs
  | .t l, vs, v => ∃ ps, v = .tup ps ∧ asmAP l vs ps
def RS.sat (mem : Mem) (r : RS) (v : AV) : Prop := ∃ vs js, r.asmA vs v ∧ satRC mem r.cells vs js ∧ js.Nodup
section
variable {C : Cfg} {B : Nat → Prop} {w0 w : World} {env : Nat → Nat} {mem : Mem} {P : Program}
def ArgLies (w : World) : SE → List Int → Value → Prop
  | .w k, es, v => ∃ n, es = [n] ∧ v = .int k n ∧ okI k n
  | .l k n, es, v => es.length = n ∧ v = .agg (es.map (Value.int k)).toArray ∧ ∀ x ∈ es, okI k x
  | .s k, es, v => Lies w v k es
  | .b, es, v => ∃ c, v = .bool c ∧ es = [iteI c 1 0]
theorem parseE_spec {sh : SE} {x : AV} {ps : List Cnd} {es : List Int} {v : Value} (hm : MR C B w0 env mem w) (h : parseE mem sh x = some (ps, es)) (hp : allP ps) (hx : x.R env mem.n v) : ArgLies w sh es v := by
  cases sh with
  | w k =>
    simp only [parseE] at h
    split at h
    · rename_i k' n hn
      split at h
      · rename_i hk
        have hk := kEq_of hk
        subst hk
        cases h
        obtain ⟨h1, h2⟩ := num_val hn hx
        exact ⟨n, rfl, h1, h2⟩
      · cases h
    · cases h
  | l k n =>
    cases x with
    | agg l =>
      simp only [parseE] at h
      split at h
      · rename_i es' he
        split at h
        · rename_i hn
          cases h
          obtain ⟨vs, rfl, hR⟩ := hx
          obtain ⟨e1, e2⟩ := intsOf_R he hR
          exact ⟨Nat.eq_of_beq_eq_true hn, by rw [e1], e2⟩
        · cases h
      · cases h
    | one s => cases h
    | tup l => cases h
  | s k =>
    have h : (match srcQ mem k x with | some (ps, k', M) => if kEq k k' then some (ps, M) else none | none => none) = some (ps, es) := by cases x <;> exact h
    split at h
    · rename_i ps' k' M hs
      split at h
      · rename_i hk
        have hk := kEq_of hk
        subst hk
        cases h
        exact srcQ_lies hm hs hp hx
      · cases h
    · cases h
  | b =>
    have h : (match x.bool? with | some (_, c) => some (([] : List Cnd), [iteI c 1 0]) | none => none) = some (ps, es) := by cases x <;> exact h
    split at h
    · rename_i p c hb
      cases h
      exact ⟨c, bool?_val hb hx, rfl⟩
    · cases h
theorem parseEs_spec (hm : MR C B w0 env mem w) : ∀ {shs : List SE} {args : List AV} {ps : List Cnd} {ess : List (List Int)} {vals : List Value}, parseEs mem shs args = some (ps, ess) → allP ps → All2 (AV.R env mem.n) args vals →
    ess.length = shs.length ∧ vals.length = shs.length ∧ ∀ i sh, shs[i]? = some sh → ∃ v, vals[i]? = some v ∧ ArgLies w sh (ess.getD i []) v
  | [], [], ps, ess, vals, h, _, ha => by
    cases h
    cases vals with
    | nil => exact ⟨rfl, rfl, fun i sh hi => by cases hi⟩
    | cons _ _ => exact ha.elim
  | [], _ :: _, _, _, _, h, _, _ => by cases h
  | _ :: _, [], _, _, _, h, _, _ => by cases h
  | sh :: shs, x :: xs, ps, ess, vals, h, hp, ha => by
    simp only [parseEs] at h
    split at h
    · rename_i ps1 es1 ps2 ess2 h1 h2
      cases h
      rw [allP_iff] at hp
      cases vals with
      | nil => exact ha.elim
      | cons v vals =>
        have q1 := parseE_spec hm h1 hp.1 ha.1
        obtain ⟨q2, q4, q3⟩ := parseEs_spec hm h2 hp.2 ha.2
        refine ⟨by simp [q2], by simp [q4], fun i sh' hi => ?_⟩
        cases i with
        | zero => simp at hi; subst hi; exact ⟨v, rfl, q1⟩
        | succ i => simpa using q3 i sh' (by simpa using hi)
    · cases h
theorem argsE_get {b : Nat} {Ms : Nat → List Int} : ∀ {shs : List SE} {i j : Nat} {x : AV}, (argsE b Ms i shs)[j]? = some x → ∃ sh, shs[j]? = some sh ∧ x = argE (b + 2 * (i + j)) (Ms (i + j)) sh
  | [], _, _, _, h => by cases h
  | sh :: shs, i, j, x, h => by
    cases j with
    | zero => simp only [argsE, List.getElem?_cons_zero, Option.some.injEq] at h; exact ⟨sh, rfl, h.symm⟩
    | succ j =>
      simp only [argsE, List.getElem?_cons_succ] at h
      obtain ⟨sh', h1, h2⟩ := argsE_get h
      exact ⟨sh', by simpa using h1, by rw [h2, show i + 1 + j = i + (j + 1) by omega]⟩
theorem blksE_get {b : Nat} {Ms : Nat → List Int} : ∀ {shs : List SE} {i j : Nat} {x : AB}, (blksE b Ms i shs)[j]? = some x → (∃ p sh, j = 2 * p ∧ shs[p]? = some sh ∧ x = blkE (b + 2 * (i + p) + 1) (Ms (i + p)) sh) ∨ x = .gone
  | [], _, _, _, h => by cases h
  | sh :: shs, i, j, x, h => by
    match j, h with
    | 0, h => simp only [blksE, List.getElem?_cons_zero, Option.some.injEq] at h; exact .inl ⟨0, sh, rfl, rfl, h.symm⟩
    | 1, h => simp only [blksE, List.getElem?_cons_succ, List.getElem?_cons_zero, Option.some.injEq] at h; exact .inr h.symm
    | j + 2, h =>
      simp only [blksE, List.getElem?_cons_succ] at h
      rcases blksE_get h with ⟨p, sh', h1, h2, h3⟩ | h
      · exact .inl ⟨p + 1, sh', by omega, by simpa using h2, by rw [h3, show i + 1 + p = i + (p + 1) by omega]⟩
      · exact .inr h
theorem argsE_len {b : Nat} {Ms : Nat → List Int} : ∀ {shs : List SE} {i : Nat}, (argsE b Ms i shs).length = shs.length
  | [], _ => rfl
  | _ :: shs, i => by simp [argsE, argsE_len (shs := shs) (i := i + 1)]
theorem blksE_len {b : Nat} {Ms : Nat → List Int} : ∀ {shs : List SE} {i : Nat}, (blksE b Ms i shs).length = 2 * shs.length
  | [], _ => rfl
  | _ :: shs, i => by simp [blksE, blksE_len (shs := shs) (i := i + 1)]; omega
theorem all2_of_get {α β : Type} {R : α → β → Prop} : ∀ {l : List α} {m : List β}, l.length = m.length → (∀ (i : Nat) (a : α), l[i]? = some a → ∃ b, m[i]? = some b ∧ R a b) → All2 R l m
  | [], [], _, _ => trivial
  | a :: l, b :: m, hl, h => by
    refine ⟨?_, all2_of_get (by simpa using hl) fun i x hi => ?_⟩
    · obtain ⟨b', h1, h2⟩ := h 0 a rfl
      cases h1; exact h2
    · obtain ⟨b', h1, h2⟩ := h (i + 1) x (by simpa using hi)
      exact ⟨b', by simpa using h1, h2⟩
  | [], _ :: _, hl, _ => by cases hl
  | _ :: _, [], hl, _ => by cases hl
theorem dataE_eq {Ms : Nat → List Int} : ∀ {shs : List SE} {i : Nat} {ess : List (List Int)}, ess.length = shs.length → (∀ j, j < ess.length → Ms (i + j) = ess.getD j []) → dataE Ms i shs = ess
  | [], _, [], _, _ => rfl
  | [], _, _ :: _, h, _ => by cases h
  | _ :: _, _, [], h, _ => by cases h
  | sh :: shs, i, es :: ess, h, he => by
    simp only [dataE]
    have h0 := he 0 (by simp)
    simp only [Nat.add_zero, List.getD_cons_zero] at h0
    rw [h0, dataE_eq (i := i + 1) (ess := ess) (by simpa using h) fun j hj => by
      have := he (j + 1) (by simpa using hj)
      rw [show i + 1 + j = i + (j + 1) by omega, this]; simp]
theorem pre_of {sh : SE} {es : List Int} {v : Value} (h : ArgLies w sh es v) : ∃ (b o : Nat), sh.ok es ∧
    (∀ (env' : Nat → Nat) (m' g : Nat), g < m' → env' g = o → (blkE g es sh).R env' m' (· < w.heap.size) w b) ∧ ∀ (env' : Nat → Nat) (m' j : Nat), j + 1 < m' → env' j = b → env' (j + 1) = o → (argE j es sh).R env' m' v := by
  cases sh with
  | w k =>
    obtain ⟨n, rfl, rfl, hk⟩ := h
    exact ⟨0, 0, ⟨rfl, by simpa using hk⟩, fun _ _ _ _ _ => trivial, fun _ _ _ _ _ _ => ⟨hk, rfl⟩⟩
  | l k n =>
    obtain ⟨h1, rfl, h2⟩ := h
    refine ⟨0, 0, ⟨h1, h2⟩, fun _ _ _ _ _ => trivial, fun _ _ _ _ _ _ => ⟨_, rfl, ?_⟩⟩
    rw [show (tab n fun i => es.getD i 0) = es from tab_self h1]
    exact All2.both _ _ es fun e he => ⟨h2 e he, rfl⟩
  | s k =>
    obtain ⟨p, c, rfl, h1, h2, h3, b, o, h5⟩ := h
    refine ⟨b, o, ⟨by omega, h3⟩, fun env' m' g hg he => ?_, fun env' m' j hj he he2 => ⟨⟨by omega, hj⟩, p, c, h1, h2, rfl, ?_⟩⟩
    · rcases h5 with h5 | ⟨_, front, rest, t, fr, hf, hh⟩
      · exact .inl h5
      · exact .inr ⟨front, rest, t, fr, hh, ⟨hf.trans he.symm, hg, h3⟩, (Array.getElem?_eq_some_iff.1 hh).1⟩
    · rcases h5 with rfl | ⟨rfl, _⟩
      · exact .inl rfl
      · exact .inr (by rw [he, he2, Nat.add_zero])
  | b =>
    obtain ⟨c, rfl, rfl⟩ := h
    refine ⟨0, 0, ?_, fun _ _ _ _ _ => trivial, fun _ _ _ _ _ _ => ?_⟩
    · cases c
      · exact .inl rfl
      · exact .inr rfl
    · cases c <;> exact ⟨trivial, rfl⟩
def OpnV : List SH → List Value → List Value → Prop
  | [], [], fl => fl = []
  | .one _ :: shs, v :: vs, fl => ∃ rest, fl = v :: rest ∧ OpnV shs vs rest
  | .grp l :: shs, v :: vs, fl => ∃ a rest, fl = a ++ rest ∧ a.length = l.length ∧ v = .agg a.toArray ∧ OpnV shs vs rest
  | _, _, _ => False
theorem all2_one {N : Nat} : ∀ {l : List SV} {vs : List Value}, All2 (SV.R env N) l vs → All2 (AV.R env N) (l.map .one) vs
  | [], [], _ => trivial
  | _ :: _, _ :: _, h => ⟨h.1, all2_one h.2⟩
  | [], _ :: _, h => h.elim
  | _ :: _, [], h => h.elim
theorem all2_cell {N : Nat} : ∀ {l : List AV} {vs : List Value}, All2 (AV.R env N) l vs → All2 (SV.R env N) (l.map AV.cell1) vs
  | [], [], _ => trivial
  | x :: _, _ :: _, h => ⟨by cases x with
      | one s => exact h.1
      | agg l => trivial
      | tup l => trivial, all2_cell h.2⟩
  | [], _ :: _, h => h.elim
  | _ :: _, [], h => h.elim
theorem openQ_R : ∀ {shs : List SH} {args fl : List AV} {vals : List Value}, openQ shs args = some fl → All2 (AV.R env mem.n) args vals → ∃ flv, OpnV shs vals flv ∧ All2 (AV.R env mem.n) fl flv
  | [], [], _, [], h, _ => by cases h; exact ⟨[], rfl, trivial⟩
  | [], [], _, _ :: _, _, h => h.elim
  | [], _ :: _, _, _, h, _ => by cases h
  | _ :: _, [], _, _, h, _ => by cases h
  | _ :: _, _ :: _, _, [], _, h => h.elim
  | sh :: shs, x :: xs, fl, v :: vs, h, ha => by
    simp only [openQ] at h
    split at h
    · rename_i a b h1 h2
      cases h
      obtain ⟨rest, q1, q2⟩ := openQ_R h2 ha.2
      cases sh with
      | one e => cases h1; exact ⟨v :: rest, ⟨rest, rfl, q1⟩, ha.1, q2⟩
      | grp l =>
        cases x with
        | agg cs =>
          simp only [SH.parts] at h1
          split at h1
          · rename_i hl
            cases h1
            obtain ⟨ws, rfl, hR⟩ := ha.1
            exact ⟨ws ++ rest, ⟨ws, rest, rfl, by rw [← hR.length]; exact Nat.eq_of_beq_eq_true hl, rfl, q1⟩, All2.append (all2_one hR) q2⟩
          · cases h1
        | one s => cases h1
        | tup l => cases h1
    · cases h
theorem groupQ_R {N : Nat} : ∀ {shs : List SH} {fl : List AV} {vals flv : List Value}, OpnV shs vals flv → All2 (AV.R env N) fl flv → All2 (AV.R env N) (groupQ shs fl) vals
  | [], _, [], _, _, _ => trivial
  | [], _, _ :: _, _, h, _ => h.elim
  | sh :: _, _, [], _, h, _ => by
    cases sh <;> exact False.elim h
  | .one e :: shs, fl, v :: vs, flv, h, ha => by
    obtain ⟨rest, rfl, h⟩ := h
    cases fl with
    | nil => exact ha.elim
    | cons x fl => exact ⟨ha.1, groupQ_R h ha.2⟩
  | .grp l :: shs, fl, v :: vs, flv, h, ha => by
    obtain ⟨a, rest, rfl, hl, rfl, h⟩ := h
    have hlen := ha.length
    have e : fl = fl.take l.length ++ fl.drop l.length := (List.take_append_drop _ _).symm
    rw [e] at ha
    obtain ⟨q1, q2⟩ := all2_split (by simp at hlen ⊢; omega) ha
    exact ⟨⟨a, rfl, all2_cell q1⟩, groupQ_R h q2⟩
theorem satRC_holds {w' : World} (hc : MR C (· < w.heap.size) w env mem w') : ∀ {l : List RC} {svs : List SV} {js : List Nat} {vs : List Value}, satRC mem l svs js → All2 (SV.R env mem.n) svs vs →
    holdsRC w' w.heap.size l vs (js.map env) ∧ ∀ j ∈ js, ∃ ab, mem.get j = some ab ∧ ab.wr = true
  | [], [], js, [], h, _ => by
    simp only [satRC] at h; subst h
    exact ⟨rfl, fun j hj => by cases hj⟩
  | [], [], _, _ :: _, _, h => h.elim
  | [], _ :: _, _, _, h, _ => h.elim
  | _ :: _, [], _, _, h, _ => h.elim
  | _ :: _, _ :: _, _, [], _, h => h.elim
  | c :: cs, s :: svs, js, v :: vs, h, ha => by
    obtain ⟨a, b, rfl, h1, h2⟩ := h
    obtain ⟨q1, q2⟩ := satRC_holds hc h2 ha.2
    have one : c.holds w' w.heap.size v (a.map env) ∧ ∀ j ∈ a, ∃ ab, mem.get j = some ab ∧ ab.wr = true := by
      cases c with
      | i k x =>
        obtain ⟨h1, rfl⟩ := h1
        have hR := SV.sym_R ha.1
        rw [h1] at hR
        exact ⟨⟨hR.2, hR.1, rfl⟩, fun j hj => by cases hj⟩
      | b x =>
        obtain ⟨h1, rfl⟩ := h1
        have hR := SV.sym_R ha.1
        rw [h1] at hR
        exact ⟨⟨hR.2, rfl⟩, fun j hj => by cases hj⟩
      | e =>
        obtain ⟨h1, rfl⟩ := h1
        refine ⟨⟨?_, rfl⟩, fun j hj => by cases hj⟩
        rcases h1 with rfl | rfl | ⟨j, o, rfl⟩
        · exact ha.1.2
        · exact ⟨none, ha.1.2⟩
        · exact ⟨_, ha.1.2⟩
      | s t k L =>
        rcases h1 with ⟨j, g, n, rfl, hj, rfl, rfl⟩ | ⟨j, n, l, rfl, hj, hl, rfl, rfl⟩
        · obtain ⟨_, o', ho, hg1, hg2, rfl⟩ := ha.1
          obtain ⟨rest, hh, hl, hgm, hok, hB⟩ := hc.blk j _ hj
          refine ⟨⟨env j, o', rest, rfl, Nat.le_of_not_lt hB, by rw [hl]; exact ho, by rw [hl]; exact hg2, by rw [hl]; rfl, hh, hok⟩, fun j' hj' => ?_⟩
          obtain rfl : j' = j := by simpa using hj'
          exact ⟨_, hj, rfl⟩
        · obtain ⟨⟨_, _, hcap⟩, rfl⟩ := ha.1
          obtain ⟨vs', hh, hR, hB⟩ := hc.blk j _ hj
          obtain ⟨e1, e2⟩ := intsOf_R hl hR
          have hlen : L.length = l.length := by have h1 := hR.length; rw [e1] at h1; simpa using h1.symm
          refine ⟨⟨env j, 0, [], rfl, Nat.le_of_not_lt hB, .inl rfl, by simp [hlen]; exact hcap, by simp [SV.conc, hlen], by rw [List.append_nil, ← e1]; exact hh, e2⟩, fun j' hj' => ?_⟩
          obtain rfl : j' = j := by simpa using hj'
          exact ⟨_, hj, rfl⟩
    refine ⟨⟨a.map env, b.map env, by simp, one.1, q1⟩, fun j hj => ?_⟩
    rcases List.mem_append.1 hj with hj | hj
    · exact one.2 j hj
    · exact q2 j hj
theorem nodup_map {α β : Type} {f : α → β} : ∀ {l : List α}, l.Nodup → (∀ x ∈ l, ∀ y ∈ l, x ≠ y → f x ≠ f y) → (l.map f).Nodup
  | [], _, _ => List.nodup_nil
  | x :: l, h, hf => by
    obtain ⟨h1, h2⟩ := List.nodup_cons.1 h
    rw [List.map_cons, List.nodup_cons]
    refine ⟨fun hm => ?_, nodup_map h2 fun a ha b hb => hf a (by simp [ha]) b (by simp [hb])⟩
    obtain ⟨y, hy, he⟩ := List.mem_map.1 hm
    exact hf x (by simp) y (by simp [hy]) (fun e => h1 (by rw [e]; exact hy)) he.symm
theorem asmAP_val {N : Nat} : ∀ {l : List RP} {svs : List SV} {ps : List TV} {vs : List Value}, asmAP l svs ps → All2 (TV.R env N) ps vs → ∃ flat, asmRP l flat vs ∧ All2 (SV.R env N) svs flat
  | [], svs, ps, vs, h, ha => by
    obtain ⟨rfl, rfl⟩ := h
    cases vs with
    | nil => exact ⟨[], ⟨rfl, rfl⟩, trivial⟩
    | cons _ _ => exact ha.elim
  | r :: rs, svs, ps, vs, h, ha => by
    obtain ⟨a, b, p, qs, rfl, rfl, hl, h1, h2⟩ := h
    cases vs with
    | nil => exact ha.elim
    | cons v vs =>
      obtain ⟨flat, q1, q2⟩ := asmAP_val h2 ha.2
      cases r with
      | c x =>
        obtain ⟨s, rfl, rfl⟩ := h1
        exact ⟨v :: flat, ⟨[v], flat, v, vs, rfl, rfl, rfl, rfl, q1⟩, ha.1, q2⟩
      | g l =>
        obtain rfl : p = .agg a := h1
        obtain ⟨ws, rfl, hR⟩ := ha.1
        exact ⟨ws ++ flat, ⟨ws, flat, _, vs, rfl, rfl, by rw [← hR.length]; exact hl, rfl, q1⟩, All2.append hR q2⟩
theorem RS.asmA_val {N : Nat} {r : RS} {svs : List SV} {x : AV} {v : Value} (h : r.asmA svs x) (ha : x.R env N v) : ∃ flat, r.asm flat v ∧ All2 (SV.R env N) svs flat := by
  cases r with
  | p y =>
    cases y with
    | c z => obtain ⟨s, rfl, rfl⟩ := h; exact ⟨[v], rfl, ha, trivial⟩
    | g l => obtain rfl : x = .agg svs := h; obtain ⟨ws, rfl, hR⟩ := ha; exact ⟨ws, rfl, hR⟩
  | t l =>
    obtain ⟨ps, rfl, h⟩ := h
    obtain ⟨ws, rfl, hR⟩ := ha
    obtain ⟨flat, q1, q2⟩ := asmAP_val h hR
    exact ⟨flat, ⟨ws, rfl, q1⟩, q2⟩
theorem RS.sat_holds {w' : World} (hc : MR C (· < w.heap.size) w env mem w') {r : RS} {x : AV} {v : Value} (h : r.sat mem x) (hv : x.R env mem.n v) : r.Holds w' w.heap.size v := by
  obtain ⟨svs, js, h1, h2, h3⟩ := h
  obtain ⟨flat, q1, q2⟩ := RS.asmA_val h1 hv
  obtain ⟨q3, q4⟩ := satRC_holds hc h2 q2
  refine ⟨flat, js.map env, q1, q3, nodup_map h3 fun a ha b hb hab => ?_⟩
  obtain ⟨x, hx, hwx⟩ := q4 a ha
  obtain ⟨y, hy, hwy⟩ := q4 b hb
  exact hc.sep a b x y hx hy hab hwx hwy
theorem RC.sat_mono {m m' : Mem} (h : ∀ j ab, m.get j = some ab → m'.get j = some ab) {r : RC} {v : SV} {js : List Nat} (hs : r.sat m v js) : r.sat m' v js := by
  cases r with
  | i k x => exact hs
  | b x => exact hs
  | e => exact hs
  | s t k L =>
    rcases hs with ⟨j, g, n, q1, q2, q3⟩ | ⟨j, n, l, q1, q2, q3⟩
    · exact .inl ⟨j, g, n, q1, h _ _ q2, q3⟩
    · exact .inr ⟨j, n, l, q1, h _ _ q2, q3⟩
theorem satRC_mono {m m' : Mem} (h : ∀ j ab, m.get j = some ab → m'.get j = some ab) : ∀ {l : List RC} {vs : List SV} {js : List Nat}, satRC m l vs js → satRC m' l vs js
  | [], [], _, hs => hs
  | r :: rs, v :: vs, js, hs => by
    obtain ⟨a, b, e, h1, h2⟩ := hs
    exact ⟨a, b, e, RC.sat_mono h h1, satRC_mono h h2⟩
  | [], _ :: _, _, hs => hs.elim
  | _ :: _, [], _, hs => hs.elim
theorem keep_sat {tell : Bool} {m : Mem} {r : RS} {v : AV} (h : r.sat (keepMem tell m) v) : r.sat m v := by
  cases tell with
  | true => exact h
  | false =>
    obtain ⟨vs, js, h1, h2, h3⟩ := h
    refine ⟨vs, js, h1, satRC_mono (fun j ab hj => ?_) h2, h3⟩
    exfalso
    have hj : (Tr.mk 14 : Tr AB).get j = some ab := hj
    rw [Tr.get_mk] at hj
    cases hj
theorem fok_core {C : Cfg} (hC : COk C) (hgl : C.gl = glFrom 0 C.gd) {g : Nat} {fn : Func} (hfn : FnOk C.P g fn) {shs : List SH} {conds : List (List Int) → List Cnd} {T : List (List Int) → RT} (n : Nat) {tell : Bool}
    (hrun : ∀ Ms : Nat → List Int, okE Ms 0 (entsQ shs) → allP (conds (dataE Ms 0 (entsQ shs))) → ∃ o, callA C tell n fn (groupQ shs (argsE C.gd.length Ms 0 (entsQ shs))) (memX C.gd (blksE C.gd.length Ms 0 (entsQ shs))) = o ∧ o.sat fun v m => (T (dataE Ms 0 (entsQ shs))).now.sat m v)
    {w : World} {vals flv : List Value} {ess : List (List Int)} (hgd : GDp C.gd (· < w.heap.size) w) (hov : OpnV shs vals flv) (h1 : ess.length = (entsQ shs).length) (hlv : flv.length = (entsQ shs).length)
    (h2 : ∀ i sh, (entsQ shs)[i]? = some sh → ∃ v, flv[i]? = some v ∧ ArgLies w sh (ess.getD i []) v) (hcond : allP (conds ess)) :
    CallsL C.J g vals.toArray w fun e w' => ∃ v, e = .returned v ∧ Below w.heap.size w w' ∧ (T ess).now.Holds w' w.heap.size v := by
  have hch : ∀ i : Nat, ∃ bp : Nat × Nat, ∀ sh, (entsQ shs)[i]? = some sh → ∃ v, flv[i]? = some v ∧ sh.ok (ess.getD i []) ∧ (∀ (env' : Nat → Nat) (m' g : Nat), g < m' → env' g = bp.2 → (blkE g (ess.getD i []) sh).R env' m' (· < w.heap.size) w bp.1) ∧ ∀ (env' : Nat → Nat) (m' j : Nat), j + 1 < m' → env' j = bp.1 → env' (j + 1) = bp.2 → (argE j (ess.getD i []) sh).R env' m' v := fun i => by
    cases hi : (entsQ shs)[i]? with
    | none => exact ⟨(0, 0), fun sh h => by cases h⟩
    | some sh =>
      obtain ⟨v, hv, hl⟩ := h2 i sh hi
      obtain ⟨b, o, q1, q2, q3⟩ := pre_of hl
      exact ⟨(b, o), fun sh' h => by cases h; exact ⟨v, hv, q1, q2, q3⟩⟩
  let f : Nat → Nat × Nat := fun i => Classical.choose (hch i)
  have hf : ∀ i sh, (entsQ shs)[i]? = some sh → ∃ v, flv[i]? = some v ∧ sh.ok (ess.getD i []) ∧ (∀ (env' : Nat → Nat) (m' g : Nat), g < m' → env' g = (f i).2 → (blkE g (ess.getD i []) sh).R env' m' (· < w.heap.size) w (f i).1) ∧ ∀ (env' : Nat → Nat) (m' j : Nat), j + 1 < m' → env' j = (f i).1 → env' (j + 1) = (f i).2 → (argE j (ess.getD i []) sh).R env' m' v := fun i => Classical.choose_spec (hch i)
  let Ms : Nat → List Int := fun i => ess.getD i []
  have hd : dataE Ms 0 (entsQ shs) = ess := dataE_eq h1 fun j _ => by simp [Ms]
  have hok : ∀ {l : List SE} {i : Nat}, (∀ (j : Nat) (sh : SE), l[j]? = some sh → sh.ok (Ms (i + j))) → okE Ms i l := by
    intro l
    induction l with
    | nil => intro i _; trivial
    | cons sh l ih => intro i h; exact ⟨h 0 sh rfl, ih fun j sh' hj => by have := h (j + 1) sh' (by simpa using hj); rw [show i + 1 + j = i + (j + 1) by omega]; exact this⟩
  obtain ⟨o, ho, hs⟩ := hrun Ms (hok fun j sh hj => by obtain ⟨v, _, q, _⟩ := hf j sh hj; rw [Nat.zero_add]; exact q) (by rw [hd]; exact hcond)
  rw [← ho] at hs
  let es : List Nat := (List.range (2 * (entsQ shs).length)).map fun j => if j % 2 = 0 then (f (j / 2)).1 else (f (j / 2)).2
  have hes : ∀ i, i < (entsQ shs).length → es.getD (2 * i) 0 = (f i).1 ∧ es.getD (2 * i + 1) 0 = (f i).2 := fun i hi => by
    have a1 : 2 * i < 2 * (entsQ shs).length := by omega
    have a2 : 2 * i + 1 < 2 * (entsQ shs).length := by omega
    constructor
    · simp [es, a1]
    · have : (2 * i + 1) / 2 = i := by omega
      simp [es, a2, this]
  have hlenm : (memX C.gd (blksE C.gd.length Ms 0 (entsQ shs))).n = C.gd.length + 2 * (entsQ shs).length := by
    show C.gd.length + (blksE C.gd.length Ms 0 (entsQ shs)).length = _
    rw [blksE_len]
  have hmr : MR C (· < w.heap.size) w (envX C.gd es) (memX C.gd (blksE C.gd.length Ms 0 (entsQ shs))) w := by
    refine MR.focusE hgl hgd (fun b hb => hb) (fun j ab hj => ?_) (fun i j a b hi hj hne ha hb => ?_)
    · rcases blksE_get hj with ⟨p, sh, rfl, hsh, rfl⟩ | rfl
      · rw [Nat.zero_add]
        obtain ⟨v, _, _, q, _⟩ := hf p sh hsh
        have hp := (List.getElem?_eq_some_iff.1 hsh).1
        rw [(hes p hp).1]
        refine q _ _ _ ?_ ?_
        · rw [blksE_len]; omega
        · rw [show C.gd.length + 2 * p + 1 = C.gd.length + (2 * p + 1) by omega, envX_at, (hes p hp).2]
      · trivial
    · exfalso
      rcases blksE_get hi with ⟨p, sh, _, _, rfl⟩ | rfl
      · cases sh <;> cases ha
      · cases ha
  have hargs : All2 (AV.R (envX C.gd es) (memX C.gd (blksE C.gd.length Ms 0 (entsQ shs))).n) (argsE C.gd.length Ms 0 (entsQ shs)) flv := by
    refine all2_of_get (by rw [argsE_len, hlv]) fun i x hi => ?_
    obtain ⟨sh, hsh, rfl⟩ := argsE_get hi
    rw [Nat.zero_add]
    obtain ⟨v, hv, _, _, q⟩ := hf i sh hsh
    have hlt := (List.getElem?_eq_some_iff.1 hsh).1
    refine ⟨v, hv, q _ _ _ ?_ ?_ ?_⟩
    · rw [hlenm]; omega
    · rw [envX_at, (hes i hlt).1]
    · rw [show C.gd.length + 2 * i + 1 = C.gd.length + (2 * i + 1) by omega, envX_at, (hes i hlt).2]
  refine (callA_ends hC hfn hs hmr (groupQ_R hov hargs)).mono ?_
  rintro e w' ⟨v, he, r', memc, envc, hK, hc, hx, hR⟩
  rw [hd] at hK
  exact ⟨v, he, hc.below.below, RS.sat_holds hc (keep_sat hK) hR⟩
theorem fok_run {C : Cfg} (hC : COk C) {G : List (Nat × List SV)} (hG : C.gd = G) (hgl : C.gl = glFrom 0 G) {g : Nat} {fn : Func} (hfn : FnOk C.P g fn) (hb : fn.body.isSome = true) {shs : List SH} {conds : List (List Int) → List Cnd} {T : List (List Int) → RT} (n : Nat)
    (hrun : ∀ Ms : Nat → List Int, okE Ms 0 (entsQ shs) → allP (conds (dataE Ms 0 (entsQ shs))) → ∃ o, callA C true n fn (groupQ shs (argsE G.length Ms 0 (entsQ shs))) (memX G (blksE G.length Ms 0 (entsQ shs))) = o ∧ o.sat fun v m => (T (dataE Ms 0 (entsQ shs))).now.sat m v) : FOk C g (fsum shs conds T) := by
  subst hG
  refine ⟨⟨fn, hfn, hb⟩, fun args mem r cs hF hp B w0 w env vals hm ha => ?_⟩
  unfold fsum at hF
  split at hF
  · rename_i fl hop
    split at hF
    · rename_i ps ess hparse
      cases hF
      rw [allP_iff] at hp
      obtain ⟨flv, hov, hfl⟩ := openQ_R hop ha
      obtain ⟨h1, hlv, h2⟩ := parseEs_spec hm hparse hp.1 hfl
      exact (fok_core hC hgl hfn n hrun (fun p hp => ⟨hm.base _ (hm.gd p hp).1, (hm.gd p hp).2⟩) hov h1 hlv h2 hp.2).calls
    · cases hF
  · cases hF
end
inductive R2 where
  | bad (n : Nat)
  | need (p : Prop) (o : R2)
  | br (c : Bool) (t f : R2)
  | both (a b : R2)
  | leaf (r : RS) (ns js : List Nat)
  | lost
def viewS (m : Mem) : SV → Option (RC × Nat × List Nat)
  | .sq j g o n => match Nat.beq o 0, m.get j with
    | true, some (.seq t k L g') => match Nat.beq g g' with | true => some (.s t k L, n, [j]) | false => none
    | _, _ => none
  | .slice _ _ 0 0 => some (.e, 0, [])
  | .slice j o n c => match Nat.beq o 0 && Nat.beq n c, m.get j with
    | true, some (.cells t l) => match Nat.beq n l.length, kindOf l with
      | true, some k => match intsOf k l with | some L => some (.s t k L, L.length, [j]) | none => none
      | _, _ => none
    | _, _ => none
  | .li k n => some (.i k n, 0, [])
  | .si k n => some (.i k n, 0, [])
  | .lb b => some (.b b, 0, [])
  | .sb b => some (.b b, 0, [])
  | .e0 => some (.e, 0, [])
  | .raw (.slice none 0 0) => some (.e, 0, [])
  | _ => none
def viewSs (m : Mem) : List SV → Option (List RC × List Nat × List Nat)
  | [] => some ([], [], [])
  | v :: vs => match viewS m v, viewSs m vs with | some (c, n, j), some (cs, ns, js) => some (c :: cs, n :: ns, j ++ js) | _, _ => none
def viewP (m : Mem) : TV → Option (RP × List Nat × List Nat)
  | .one s => match viewS m s with | some (c, n, j) => some (.c c, [n], j) | none => none
  | .agg l => match viewSs m l with | some (cs, ns, js) => some (.g cs, ns, js) | none => none
def viewPs (m : Mem) : List TV → Option (List RP × List Nat × List Nat)
  | [] => some ([], [], [])
  | v :: vs => match viewP m v, viewPs m vs with | some (c, n, j), some (cs, ns, js) => some (c :: cs, n ++ ns, j ++ js) | _, _ => none
def viewA (m : Mem) : AV → R2
  | .one s => match viewS m s with | some (c, n, j) => .leaf (.p (.c c)) [n] j | none => .lost
  | .agg l => match viewSs m l with | some (cs, ns, js) => .leaf (.p (.g cs)) ns js | none => .lost
  | .tup l => match viewPs m l with | some (rs, ns, js) => .leaf (.t rs) ns js | none => .lost
def Out.view : Out → R2
  | .bad n => .bad n
  | .need p o => .need p o.view
  | .br c t f => .br c t.view f.view
  | .both a b => .both a.view b.view
  | .done v m => viewA m v
def R2.sat (K : RS → List Nat → List Nat → Prop) : R2 → Prop
  | .bad _ => False
  | .need p o => p ∧ o.sat K
  | .br c t f => (c = true → t.sat K) ∧ (c = false → f.sat K)
  | .both a b => a.sat K ∧ b.sat K
  | .leaf r ns js => K r ns js
  | .lost => False
def lenOk : RC → Nat → Prop
  | .s _ _ L, n => n = L.length
  | _, _ => True
def RS.met (r : RS) : RS → List Nat → List Nat → Prop := fun r' ns js => r' = r ∧ All2 lenOk r.cells ns ∧ js.Nodup
theorem viewS_sat {m : Mem} {v : SV} {x : RC} {n : Nat} {js : List Nat} (h : viewS m v = some (x, n, js)) (hl : lenOk x n) : x.sat m v js := by
  unfold viewS at h
  split at h
  · rename_i j g o n'
    split at h
    · rename_i t k L g' ho hg
      split at h
      · rename_i hgg
        have hgg := Nat.eq_of_beq_eq_true hgg
        have ho := Nat.eq_of_beq_eq_true ho
        subst hgg ho
        cases h
        exact .inl ⟨j, g, n, rfl, hg, hl, rfl⟩
      · cases h
    · cases h
  · cases h; exact ⟨.inr (.inr ⟨_, _, rfl⟩), rfl⟩
  · rename_i j o n' c
    split at h
    · rename_i t l ho hg
      split at h
      · rename_i k hn hk
        split at h
        · rename_i L hL
          simp only [Bool.and_eq_true] at ho
          have h1 := Nat.eq_of_beq_eq_true ho.1
          have h2 := Nat.eq_of_beq_eq_true ho.2
          have h3 := Nat.eq_of_beq_eq_true hn
          subst h1 h2
          cases h
          exact .inr ⟨_, _, l, rfl, hg, hL, h3, rfl⟩
        · cases h
      · cases h
    · cases h
  · cases h; exact ⟨rfl, rfl⟩
  · cases h; exact ⟨rfl, rfl⟩
  · cases h; exact ⟨rfl, rfl⟩
  · cases h; exact ⟨rfl, rfl⟩
  · cases h; exact ⟨.inl rfl, rfl⟩
  · cases h; exact ⟨.inr (.inl rfl), rfl⟩
  · cases h
theorem viewSs_sat {m : Mem} : ∀ {vs : List SV} {l : List RC} {ns js : List Nat}, viewSs m vs = some (l, ns, js) → l.length = vs.length ∧ ns.length = l.length ∧ (All2 lenOk l ns → satRC m l vs js)
  | [], l, ns, js, h => by cases h; exact ⟨rfl, rfl, fun _ => rfl⟩
  | v :: vs, l, ns, js, h => by
    simp only [viewSs] at h
    split at h
    · rename_i c n j cs ns' js' h1 h2
      cases h
      obtain ⟨q1, q2, q3⟩ := viewSs_sat h2
      exact ⟨by simp [q1], by simp [q2], fun hl => ⟨j, js', rfl, viewS_sat h1 hl.1, q3 hl.2⟩⟩
    · cases h
theorem satRC_app {m : Mem} : ∀ {l : List RC} {l' : List RC} {vs vs' : List SV} {js js' : List Nat}, satRC m l vs js → satRC m l' vs' js' → satRC m (l ++ l') (vs ++ vs') (js ++ js')
  | [], _, [], _, js, _, h, h' => by simp only [satRC] at h; subst h; exact h'
  | c :: cs, _, v :: vs, _, js, js', h, h' => by
    obtain ⟨a, b, rfl, h1, h2⟩ := h
    exact ⟨a, b ++ js', by simp, h1, satRC_app h2 h'⟩
  | [], _, _ :: _, _, _, _, h, _ => h.elim
  | _ :: _, _, [], _, _, _, h, _ => h.elim
theorem viewP_sat {m : Mem} {v : TV} {x : RP} {ns js : List Nat} (h : viewP m v = some (x, ns, js)) : ∃ svs, svs.length = x.cells.length ∧ ns.length = x.cells.length ∧ x.asmA svs v ∧ (All2 lenOk x.cells ns → satRC m x.cells svs js) := by
  cases v with
  | one s =>
    simp only [viewP] at h
    split at h
    · rename_i c n j h1
      cases h
      exact ⟨[s], rfl, rfl, ⟨s, rfl, rfl⟩, fun hl => ⟨js, [], by simp, viewS_sat h1 hl.1, rfl⟩⟩
    · cases h
  | agg l =>
    simp only [viewP] at h
    split at h
    · rename_i cs ns' js' h1
      cases h
      obtain ⟨q1, q2, q3⟩ := viewSs_sat h1
      exact ⟨l, q1.symm, q2, rfl, q3⟩
    · cases h
theorem viewPs_sat {m : Mem} : ∀ {vs : List TV} {l : List RP} {ns js : List Nat}, viewPs m vs = some (l, ns, js) → ∃ svs, asmAP l svs vs ∧ (All2 lenOk (l.flatMap RP.cells) ns → satRC m (l.flatMap RP.cells) svs js)
  | [], l, ns, js, h => by cases h; exact ⟨[], ⟨rfl, rfl⟩, fun _ => rfl⟩
  | v :: vs, l, ns, js, h => by
    simp only [viewPs] at h
    split at h
    · rename_i c n j cs ns' js' h1 h2
      cases h
      obtain ⟨s1, e1, e2, e3, e4⟩ := viewP_sat h1
      obtain ⟨s2, e5, e6⟩ := viewPs_sat h2
      refine ⟨s1 ++ s2, ⟨s1, s2, v, vs, rfl, rfl, e1, e3, e5⟩, fun hl => ?_⟩
      rw [List.flatMap_cons] at hl ⊢
      obtain ⟨p1, p2⟩ := all2_split e2.symm hl
      exact satRC_app (e4 p1) (e6 p2)
    · cases h
theorem view_sat {T : RS} : ∀ {o : Out}, o.view.sat T.met → o.sat fun v m => T.sat m v
  | .bad _, h => h
  | .need p o, h => ⟨h.1, view_sat h.2⟩
  | .br c t f, h => ⟨fun hc => view_sat (h.1 hc), fun hc => view_sat (h.2 hc)⟩
  | .both a b, h => ⟨view_sat h.1, view_sat h.2⟩
  | .done v m, h => by
    have h : (viewA m v).sat T.met := h
    show T.sat m v
    cases v with
    | one s =>
      simp only [viewA] at h
      split at h
      · rename_i c n j h1
        obtain ⟨e, hl, hn⟩ := h
        subst e
        exact ⟨[s], j, ⟨s, rfl, rfl⟩, ⟨j, [], by simp, viewS_sat h1 hl.1, rfl⟩, hn⟩
      · exact h.elim
    | agg l =>
      simp only [viewA] at h
      split at h
      · rename_i cs ns js h1
        obtain ⟨e, hl, hn⟩ := h
        subst e
        exact ⟨l, js, rfl, (viewSs_sat h1).2.2 hl, hn⟩
      · exact h.elim
    | tup vs =>
      simp only [viewA] at h
      split at h
      · rename_i rs ns js h1
        obtain ⟨e, hl, hn⟩ := h
        subst e
        obtain ⟨svs, e1, e2⟩ := viewPs_sat h1
        exact ⟨svs, js, ⟨vs, rfl, e1⟩, e2 hl, hn⟩
      · exact h.elim
end Go.Ax

namespace Go.Ax
open Go Go.RowKit
def CV.ren (f : Nat → Option Nat) : CV → Option CV
  | .p b o => match f b with | some b' => some (.p b' o) | none => none
  | .r v => some (.r v)
def renCVs (f : Nat → Option Nat) : List CV → Option (List CV)
  | [] => some []
  | c :: cs => match c.ren f, renCVs f cs with | some x, some xs => some (x :: xs) | _, _ => none
def SV.ren (f : Nat → Option Nat) : SV → SV
  | .ptr b o => match f b with | some b' => .ptr b' o | none => .any
  | .ptrS b o => match f b with | some b' => .ptrS b' o | none => .any
  | .ptrR b g o => match f b, f g with | some b', some g' => .ptrR b' g' o | _, _ => .any
  | .slice b o n c => match f b with | some b' => .slice b' o n c | none => .any
  | .slx b o n => match f b with | some b' => .slx b' o n | none => .any
  | .fn g caps => match renCVs f caps with | some l => .fn g l | none => .any
  | .sq b g o n => match f b, f g with | some b', some g' => .sq b' g' o n | _, _ => .any
  | .slq b o n => match f b with | some b' => .slq b' o n | none => .any
  | .slr b g o n => match f b, f g with | some b', some g' => .slr b' g' o n | _, _ => .any
  | .mp b => match f b with | some b' => .mp b' | none => .any
  | .yl b => match f b with | some b' => .yl b' | none => .any
  | .fnb g b o => match f b with | some b' => .fnb g b' o | none => .any
  | s => s
def TV.ren (f : Nat → Option Nat) : TV → TV
  | .one s => .one (s.ren f)
  | .agg l => .agg (l.map (SV.ren f))
def AV.ren (f : Nat → Option Nat) : AV → AV
  | .one s => .one (s.ren f)
  | .agg l => .agg (l.map (SV.ren f))
  | .tup l => .tup (l.map (TV.ren f))
def AB.ren (f : Nat → Option Nat) : AB → AB
  | .gone => .gone
  | .cells t l => .cells t (l.map fun s => (s.ren f).sym)
  | .row t l => .row t (l.map (SV.ren f))
  | .ro l => .ro (l.map (SV.ren f))
  | .seq t k L g => match f g with | some g' => .seq t k L g' | none => .gone
  | .rseq k L g => match f g with | some g' => .rseq k L g' | none => .gone
  | .mp k kv es => .mp k kv es
  | .fz t l => .fz t (l.map (SV.ren f))
  | .num c => .num c
  | .ob .df => .ob .df
  | .ob (.lp ..) => .gone
section
variable {env env' : Nat → Nat} {m m' : Nat} {f : Nat → Option Nat}
def RenOk (f : Nat → Option Nat) (env env' : Nat → Nat) (m' : Nat) : Prop := ∀ b b', f b = some b' → b' < m' ∧ env' b' = env b
theorem renCVs_ok (hf : RenOk f env env' m') : ∀ {l l' : List CV}, renCVs f l = some l' → (∀ c ∈ l', c.ok m') ∧ l'.map (CV.conc env') = l.map (CV.conc env)
  | [], l', h => by cases h; exact ⟨fun c hc => (by cases hc), rfl⟩
  | c :: cs, l', h => by
    simp only [renCVs] at h
    split at h
    · rename_i x xs hx hxs
      cases h
      obtain ⟨q1, q2⟩ := renCVs_ok hf hxs
      have : x.ok m' ∧ x.conc env' = c.conc env := by
        cases c with
        | p b o =>
          simp only [CV.ren] at hx
          split at hx
          · rename_i b' hb
            cases hx
            obtain ⟨p1, p2⟩ := hf b b' hb
            exact ⟨p1, by simp only [CV.conc, p2]⟩
          · cases hx
        | r v => cases hx; exact ⟨trivial, rfl⟩
      refine ⟨fun c hc => ?_, by rw [List.map_cons, List.map_cons, this.2, q2]⟩
      rcases List.mem_cons.1 hc with rfl | hc
      · exact this.1
      · exact q1 c hc
    · cases h
theorem SV.ren_R (hf : RenOk f env env' m') {s : SV} {v : Value} (h : s.R env m v) : (s.ren f).R env' m' v := by
  cases s with
  | any => trivial
  | li k n => exact h
  | si k n => exact h
  | lb b => exact h
  | sb b => exact h
  | raw v => exact h
  | e0 => exact h
  | st L => exact h
  | mp b =>
    simp only [SV.ren]
    split
    · rename_i b' hb; obtain ⟨q1, q2⟩ := hf b b' hb; obtain ⟨_, rfl⟩ := h; exact ⟨q1, by simp only [SV.conc, q2]⟩
    · trivial
  | yl b =>
    simp only [SV.ren]
    split
    · rename_i b' hb; obtain ⟨q1, q2⟩ := hf b b' hb; obtain ⟨_, rfl⟩ := h; exact ⟨q1, by simp only [SV.conc, q2]⟩
    · trivial
  | fnb g b o =>
    simp only [SV.ren]
    split
    · rename_i b' hb; obtain ⟨q1, q2⟩ := hf b b' hb; obtain ⟨_, rfl⟩ := h; exact ⟨q1, by simp only [SV.conc, q2]⟩
    · trivial
  | ptr b o =>
    simp only [SV.ren]
    split
    · rename_i b' hb; obtain ⟨q1, q2⟩ := hf b b' hb; obtain ⟨_, rfl⟩ := h; exact ⟨q1, by simp only [SV.conc, q2]⟩
    · trivial
  | ptrS b o =>
    simp only [SV.ren]
    split
    · rename_i b' hb; obtain ⟨q1, q2⟩ := hf b b' hb; obtain ⟨_, rfl⟩ := h; exact ⟨q1, by simp only [SV.conc, q2]⟩
    · trivial
  | ptrR b g o =>
    simp only [SV.ren]
    split
    · rename_i b' g' hb hg
      obtain ⟨q1, q2⟩ := hf b b' hb
      obtain ⟨q3, q4⟩ := hf g g' hg
      obtain ⟨_, rfl⟩ := h
      exact ⟨⟨q1, q3⟩, by simp only [SV.conc, q2, q4]⟩
    · trivial
  | slr b g o n =>
    simp only [SV.ren]
    split
    · rename_i b' g' hb hg
      obtain ⟨q1, q2⟩ := hf b b' hb
      obtain ⟨q3, q4⟩ := hf g g' hg
      obtain ⟨_, p, c, h1, h2, rfl, h3⟩ := h
      exact ⟨⟨q1, q3⟩, p, c, h1, h2, rfl, by rw [q2, q4]; exact h3⟩
    · trivial
  | slice b o n c =>
    simp only [SV.ren]
    split
    · rename_i b' hb; obtain ⟨q1, q2⟩ := hf b b' hb; obtain ⟨h1, rfl⟩ := h; exact ⟨⟨q1, h1.2⟩, by simp only [SV.conc, q2]⟩
    · trivial
  | slx b o n =>
    simp only [SV.ren]
    split
    · rename_i b' hb; obtain ⟨q1, q2⟩ := hf b b' hb; obtain ⟨_, c, h1, h2, rfl⟩ := h; exact ⟨q1, c, h1, h2, by rw [q2]⟩
    · trivial
  | fn g caps =>
    simp only [SV.ren]
    split
    · rename_i l hl
      obtain ⟨q1, q2⟩ := renCVs_ok hf hl
      obtain ⟨_, rfl⟩ := h
      exact ⟨q1, by simp only [SV.conc, q2]⟩
    · trivial
  | sq b g o n =>
    simp only [SV.ren]
    split
    · rename_i b' g' hb hg
      obtain ⟨q1, q2⟩ := hf b b' hb
      obtain ⟨q3, q4⟩ := hf g g' hg
      obtain ⟨_, o', h1, h2, h3, rfl⟩ := h
      rw [← q4] at h1 h2 h3
      exact ⟨⟨q1, q3⟩, o', h1, h2, h3, by rw [q2, q4]⟩
    · trivial
  | slq b o n =>
    simp only [SV.ren]
    split
    · rename_i b' hb
      obtain ⟨q1, q2⟩ := hf b b' hb
      obtain ⟨_, p, c, h1, h2, rfl, h3⟩ := h
      exact ⟨q1, p, c, h1, h2, rfl, by rw [q2]; exact h3⟩
    · trivial
theorem all2_ren (hf : RenOk f env env' m') : ∀ {l : List SV} {vs : List Value}, All2 (SV.R env m) l vs → All2 (SV.R env' m') (l.map (SV.ren f)) vs
  | [], [], _ => trivial
  | _ :: _, _ :: _, h => ⟨SV.ren_R hf h.1, all2_ren hf h.2⟩
  | [], _ :: _, h => h.elim
  | _ :: _, [], h => h.elim
theorem TV.ren_R (hf : RenOk f env env' m') {s : TV} {v : Value} (h : s.R env m v) : (s.ren f).R env' m' v := by
  cases s with
  | one s => exact SV.ren_R hf h
  | agg l => obtain ⟨vs, rfl, h⟩ := h; exact ⟨vs, rfl, all2_ren hf h⟩
theorem all2_renT (hf : RenOk f env env' m') : ∀ {l : List TV} {vs : List Value}, All2 (TV.R env m) l vs → All2 (TV.R env' m') (l.map (TV.ren f)) vs
  | [], [], _ => trivial
  | _ :: _, _ :: _, h => ⟨TV.ren_R hf h.1, all2_renT hf h.2⟩
  | [], _ :: _, h => h.elim
  | _ :: _, [], h => h.elim
theorem AV.ren_R (hf : RenOk f env env' m') {s : AV} {v : Value} (h : s.R env m v) : (s.ren f).R env' m' v := by
  cases s with
  | one s => exact SV.ren_R hf h
  | agg l => obtain ⟨vs, rfl, h⟩ := h; exact ⟨vs, rfl, all2_ren hf h⟩
  | tup l => obtain ⟨vs, rfl, h⟩ := h; exact ⟨vs, rfl, all2_renT hf h⟩
theorem all2_renS (hf : RenOk f env env' m') : ∀ {l : List SV} {vs : List Value}, All2 (SV.R env m) l vs → All2 (SV.R env' m') (l.map fun s => (s.ren f).sym) vs
  | [], [], _ => trivial
  | _ :: _, _ :: _, h => ⟨SV.sym_R (SV.ren_R hf h.1), all2_renS hf h.2⟩
  | [], _ :: _, h => h.elim
  | _ :: _, [], h => h.elim
theorem AB.ren_wr {ab : AB} (h : (ab.ren f).wr = true) : ab.wr = true := by
  cases ab with
  | gone => exact h
  | cells t l => rfl
  | row t l => rfl
  | ro l => exact h
  | seq t k L g => rfl
  | rseq k L g => simp only [AB.ren] at h; split at h <;> exact h
  | mp k kv es => rfl
  | fz t l => rfl
  | ob x => rfl
  | num c => exact h
theorem AB.ren_R (hf : RenOk f env env' m') {ab : AB} {B : Nat → Prop} {w : World} {b : Nat} (h : ab.R env m B w b) : (ab.ren f).R env' m' B w b := by
  cases ab with
  | gone => trivial
  | cells t l => obtain ⟨vs, h1, h2, h3⟩ := h; exact ⟨vs, h1, all2_renS hf h2, h3⟩
  | row t l => obtain ⟨vs, rest, h1, h2, h3⟩ := h; exact ⟨vs, rest, h1, all2_ren hf h2, h3⟩
  | ro l => obtain ⟨vs, rest, t, fr, h1, h2, h3⟩ := h; exact ⟨vs, rest, t, fr, h1, all2_ren hf h2, h3⟩
  | seq t k L g =>
    obtain ⟨rest, h1, h2, h3, h4⟩ := h
    simp only [AB.ren]
    split
    · rename_i g' hg
      obtain ⟨q1, q2⟩ := hf g g' hg
      exact ⟨rest, h1, by rw [h2, q2], q1, h4⟩
    · trivial
  | rseq k L g =>
    simp only [AB.ren]
    split
    · rename_i g' hg
      obtain ⟨q1, q2⟩ := hf g g' hg
      rcases h with h | ⟨front, rest, t, fr, h1, ⟨h2, h3, h4⟩, h5⟩
      · exact .inl h
      · exact .inr ⟨front, rest, t, fr, h1, ⟨by rw [h2, q2], q1, h4⟩, h5⟩
    · trivial
  | mp k kv es => exact h
  | fz t l => obtain ⟨vs, fr, h1, h2, h3⟩ := h; exact ⟨vs, fr, h1, all2_ren hf h2, h3⟩
  | num c => exact h
  | ob x => cases x with
    | df => exact h
    | lp => trivial
end
structure LS where
  sl : List (Nat × AV)
  bl : List AB
inductive Root where
  | fix (n : Nat)
  | of (t : Nat)
def Root.find (tm : TM) : Root → Option (List Nat)
  | .fix n => some [n]
  | .of t => match tm.get t with
    | .one (.sq b g _ _) => some [b, g]
    | .one (.slq b _ _) => some [b]
    | .one (.slr b g _ _) => some [b, g]
    | .one (.ptr b _) => some [b]
    | .one (.slice b _ _ _) => some [b]
    | _ => none
def findAll (tm : TM) : List Root → Option (List Nat)
  | [] => some []
  | r :: rs => match r.find tm, findAll tm rs with | some a, some b => some (a ++ b) | _, _ => none
def posOf (b : Nat) : Nat → List Nat → Option Nat
  | _, [] => none
  | i, c :: cs => match Nat.beq b c with | true => some i | false => posOf b (i + 1) cs
def newNo (g : Nat) (rho : List Nat) (b : Nat) : Option Nat := match Nat.blt b g with | true => some b | false => posOf b g rho
def distinct : List Nat → Bool
  | [] => true
  | b :: bs => (!bs.any (Nat.beq b)) && distinct bs
def lookL (g : Nat) (ts rho : List Nat) (tm : TM) (mem : Mem) : Option LS :=
  match distinct rho && rho.all (fun b => Nat.ble g b && Nat.blt b mem.n) with
  | true => some ⟨ts.map fun t => (t, (tm.get t).ren (newNo g rho)), rho.map fun b => match mem.get b with | some ab => ab.ren (newNo g rho) | none => .gone⟩
  | false => none
theorem posOf_spec {b : Nat} : ∀ {l : List Nat} {i j : Nat}, posOf b i l = some j → i ≤ j ∧ l[j - i]? = some b
  | [], _, _, h => by cases h
  | c :: cs, i, j, h => by
    simp only [posOf] at h
    split at h
    · rename_i hb
      cases h
      exact ⟨Nat.le_refl _, by simp [Nat.eq_of_beq_eq_true hb]⟩
    · obtain ⟨h1, h2⟩ := posOf_spec h
      refine ⟨by omega, ?_⟩
      rw [show j - i = (j - (i + 1)) + 1 by omega, List.getElem?_cons_succ]
      exact h2
theorem distinct_ne : ∀ {l : List Nat}, distinct l = true → ∀ {i j : Nat} {a b : Nat}, l[i]? = some a → l[j]? = some b → i ≠ j → a ≠ b
  | [], _, i, j, a, b, h1, _, _ => by cases h1
  | c :: cs, h, i, j, a, b, h1, h2, hij => by
    simp only [distinct, Bool.and_eq_true, Bool.not_eq_true', List.any_eq_false] at h
    have notin : ∀ x, x ∈ cs → c ≠ x := fun x hx e => by
      have := h.1 x hx
      rw [e, Nat.beq_refl] at this
      exact absurd rfl this
    cases i with
    | zero =>
      cases j with
      | zero => exact absurd rfl hij
      | succ j =>
        simp at h1 h2; subst h1
        exact notin b (List.mem_of_getElem? h2)
    | succ i =>
      cases j with
      | zero => simp at h1 h2; subst h2; exact fun e => notin a (List.mem_of_getElem? h1) e.symm
      | succ j => exact distinct_ne h.2 (by simpa using h1) (by simpa using h2) (by omega)
def envL (g : Nat) (rho : List Nat) (env : Nat → Nat) (i : Nat) : Nat := match Nat.blt i g with | true => env i | false => env (rho.getD (i - g) 0)
section
variable {C : Cfg} {B : Nat → Prop} {w0 w : World} {env : Nat → Nat} {tm : TM} {mem : Mem} {a : Act}
theorem blt_false {a b : Nat} (h : Nat.blt a b = false) : b ≤ a := by
  rcases Nat.lt_or_ge a b with h' | h'
  · have : Nat.blt a b = true := Nat.ble_eq_true_of_le h'
    rw [this] at h; cases h
  · exact h'
theorem newNo_ok {g : Nat} {rho : List Nat} : RenOk (newNo g rho) env (envL g rho env) (g + rho.length) := fun b b' h => by
  unfold newNo at h
  unfold envL
  split at h
  · rename_i hb
    cases h
    have hlt : b < g := Nat.le_of_ble_eq_true hb
    exact ⟨by omega, by rw [hb]⟩
  · obtain ⟨h1, h2⟩ := posOf_spec h
    have hlt := (List.getElem?_eq_some_iff.1 h2).1
    refine ⟨by omega, ?_⟩
    rw [show Nat.blt b' g = false from by cases hq : Nat.blt b' g with
      | false => rfl
      | true => have : b' < g := Nat.le_of_ble_eq_true hq; omega]
    simp only [List.getD_eq_getElem?_getD, h2, Option.getD_some]
theorem memX_get {G : List (Nat × List SV)} {xs : List AB} {i : Nat} {ab : AB} (hi : (memX G xs).get i = some ab) : (i < G.length ∧ ∃ p, G[i]? = some p ∧ ab = .ro p.2) ∨ (∃ j, i = G.length + j ∧ xs[j]? = some ab) := by
  rcases ofList_get _ _ _ _ _ hi with h | ⟨_, h⟩
  · rw [Tr.get_mk] at h; cases h
  · simp only [Nat.sub_zero] at h
    by_cases hl : i < G.length
    · rw [List.getElem?_append_left (by simpa using hl), List.getElem?_map] at h
      obtain ⟨p, hp, rfl⟩ := Option.map_eq_some_iff.1 h
      exact .inl ⟨hl, p, hp, rfl⟩
    · rw [List.getElem?_append_right (by simpa using hl)] at h
      exact .inr ⟨i - G.length, by omega, by simpa using h⟩
theorem glob_env (hgl : C.gl = glFrom 0 C.gd) (h : MR C B w0 env mem w) {i : Nat} {p : Nat × List SV} (hp : C.gd[i]? = some p) : env i = p.1 ∧ i < mem.n := by
  have key : ∀ {l : List (Nat × List SV)} {k i : Nat} {p : Nat × List SV}, l[i]? = some p → (p.1, k + i) ∈ glFrom k l := by
    intro l
    induction l with
    | nil => intro k i p h; cases h
    | cons x l ih =>
      intro k i p h
      cases i with
      | zero => simp at h; subst h; simp [glFrom]
      | succ i => simp only [glFrom]; refine List.mem_cons_of_mem _ ?_; rw [show k + (i + 1) = k + 1 + i by omega]; exact ih (by simpa using h)
  have := h.gl (p.1, 0 + i) (by rw [hgl]; exact key hp)
  simpa using this
theorem Rel.look (hgl : C.gl = glFrom 0 C.gd) (hr : Rel C B w0 env tm mem a w) {ts rho : List Nat} {s : LS} (h : lookL C.gd.length ts rho tm mem = some s) :
    (∀ p ∈ s.sl, p.2.R (envL C.gd.length rho env) (memX C.gd s.bl).n (a.tmps.getD p.1 undef)) ∧ MR C B w0 (envL C.gd.length rho env) (memX C.gd s.bl) w ∧ s.bl.length = rho.length ∧ distinct rho = true ∧ ∀ b ∈ rho, C.gd.length ≤ b ∧ b < mem.n := by
  unfold lookL at h
  split at h
  · rename_i hd
    cases h
    simp only [Bool.and_eq_true] at hd
    obtain ⟨hd, hall⟩ := hd
    have hok := newNo_ok (env := env) (g := C.gd.length) (rho := rho)
    have hn : (memX C.gd (rho.map fun b => match mem.get b with | some ab => ab.ren (newNo C.gd.length rho) | none => .gone)).n = C.gd.length + rho.length := by simp [memX]
    have hnew : ∀ j b, rho[j]? = some b → envL C.gd.length rho env (C.gd.length + j) = env b := fun j b hj => by
      unfold envL
      rw [show Nat.blt (C.gd.length + j) C.gd.length = false from by cases hq : Nat.blt (C.gd.length + j) C.gd.length with
        | false => rfl
        | true => have : C.gd.length + j < C.gd.length := Nat.le_of_ble_eq_true hq; omega]
      simp [List.getD_eq_getElem?_getD, hj]
    have hglob : ∀ i p, C.gd[i]? = some p → envL C.gd.length rho env i = p.1 := fun i p hp => by
      unfold envL
      rw [show Nat.blt i C.gd.length = true from Nat.ble_eq_true_of_le (List.getElem?_eq_some_iff.1 hp).1]
      exact (glob_env hgl hr.mem hp).1
    have hblk : ∀ j ab, (rho.map fun b => match mem.get b with | some ab => ab.ren (newNo C.gd.length rho) | none => .gone)[j]? = some ab → ∃ b, rho[j]? = some b ∧ ((∃ ab0, mem.get b = some ab0 ∧ ab = ab0.ren (newNo C.gd.length rho)) ∨ ab = .gone) := fun j ab hj => by
      rw [List.getElem?_map] at hj
      obtain ⟨b, hb, rfl⟩ := Option.map_eq_some_iff.1 hj
      refine ⟨b, hb, ?_⟩
      cases hq : mem.get b with
      | none => exact .inr rfl
      | some ab0 => exact .inl ⟨ab0, rfl, rfl⟩
    refine ⟨fun p hp => ?_, ⟨hr.mem.below, hr.mem.base, fun i ab hi => ?_, fun i ab hi => ?_, fun i j x y hi hj hij hx hy => ?_, fun p hp => ?_, hr.mem.gd⟩, by simp, hd, fun b hb => ?_⟩
    · obtain ⟨t', _, rfl⟩ := List.mem_map.1 hp
      rw [hn]
      exact AV.ren_R hok (hr.tmp t')
    · rw [hn]
      rcases memX_get hi with ⟨h1, _⟩ | ⟨j, rfl, hj⟩
      · omega
      · have := (List.getElem?_eq_some_iff.1 hj).1
        simp at this; omega
    · rw [hn]
      rcases memX_get hi with ⟨_, p, hp, rfl⟩ | ⟨j, rfl, hj⟩
      · obtain ⟨h1, vs, rest, t, fr, h2, h3⟩ := hr.mem.gd p (List.mem_of_getElem? hp)
        rw [hglob i p hp]
        exact ⟨vs, rest, t, fr, h2, h3.imp fun _ _ => SV.R_ext ⟨Nat.zero_le _, fun _ hi => absurd hi (Nat.not_lt_zero _)⟩, h1⟩
      · obtain ⟨b, hb, ⟨ab0, h0, rfl⟩ | rfl⟩ := hblk j ab hj
        · rw [hnew j b hb]
          exact AB.ren_R hok (hr.mem.blk b ab0 h0)
        · trivial
    · rcases memX_get hi with ⟨_, p, _, rfl⟩ | ⟨i', rfl, hi'⟩
      · cases hx
      rcases memX_get hj with ⟨_, p, _, rfl⟩ | ⟨j', rfl, hj'⟩
      · cases hy
      obtain ⟨b, hb, ⟨ab0, h0, rfl⟩ | rfl⟩ := hblk i' x hi'
      · obtain ⟨c, hc, ⟨ab1, h1, rfl⟩ | rfl⟩ := hblk j' y hj'
        · rw [hnew i' b hb, hnew j' c hc]
          exact hr.mem.sep b c ab0 ab1 h0 h1 (distinct_ne hd hb hc (by omega)) (AB.ren_wr hx) (AB.ren_wr hy)
        · cases hy
      · cases hx
    · rw [hgl] at hp
      obtain ⟨j, h1, q, h2, h3⟩ := mem_glFrom hp
      have hj : p.2 = j := by omega
      rw [hj, hn]
      have hl := (List.getElem?_eq_some_iff.1 h2).1
      exact ⟨by rw [hglob j q h2]; exact h3, by omega⟩
    · have := List.all_eq_true.1 hall b hb
      simp only [Bool.and_eq_true] at this
      exact ⟨Nat.le_of_ble_eq_true this.1, Nat.le_of_ble_eq_true this.2⟩
  · cases h
def AV.fits (x y : AV) : Prop := x = y ∨ x.sym = y ∨ y = .any
def fitsL : List (Nat × AV) → List (Nat × AV) → Prop
  | _, [] => True
  | [], _ :: _ => False
  | p :: l, q :: l' => p.1 = q.1 ∧ p.2.fits q.2 ∧ fitsL l l'
def LS.fits (s s' : LS) : Prop := fitsL s.sl s'.sl ∧ s.bl = s'.bl
theorem AV.fits_R {x y : AV} (h : x.fits y) {env : Nat → Nat} {m : Nat} {v : Value} (hx : x.R env m v) : y.R env m v := by
  rcases h with rfl | rfl | rfl
  · exact hx
  · exact AV.sym_R hx
  · trivial
theorem fitsL_mem : ∀ {l l' : List (Nat × AV)}, fitsL l l' → ∀ q ∈ l', ∃ p ∈ l, p.1 = q.1 ∧ p.2.fits q.2
  | _, [], _, q, hq => by cases hq
  | [], _ :: _, h, _, _ => h.elim
  | p :: l, q :: l', h, q', hq => by
    rcases List.mem_cons.1 hq with rfl | hq
    · exact ⟨p, List.mem_cons_self .., h.1, h.2.1⟩
    · obtain ⟨p', h1, h2⟩ := fitsL_mem h.2.2 q' hq
      exact ⟨p', List.mem_cons_of_mem _ h1, h2⟩
theorem dfs_nil {env env' : Nat → Nat} {m m' : Nat} {df df' : List DE} {ds : List Deferred} (h : Dfs env m df ds) (hd : df = []) (hd' : df' = []) : Dfs env' m' df' ds := by
  subst hd; subst hd'
  cases ds with
  | nil => trivial
  | cons _ _ => exact h.elim
theorem rel_fits {sz : Nat} {sl : List (Nat × AV)} (hsl : ∀ p ∈ sl, p.2.R env mem.n (a.tmps.getD p.1 undef)) (hsz : a.tmps.size = sz) {df : List DE} (hdf : df = []) (hd : Dfs env mem.n df a.defers) (hm : MR C B w0 env mem w) {sl' : List (Nat × AV)} (hf : fitsL sl sl') : Rel C B w0 env (slots sz sl') mem a w := by
  refine ⟨hsz.trans slots_sz.symm, fun t => slots_R fun q hq ht => ?_, by subst hdf; rw [slots_df]; exact hd, hm⟩
  obtain ⟨p, h1, h2, h3⟩ := fitsL_mem hf q hq
  subst ht
  rw [← h2]
  exact AV.fits_R h3 (hsl p h1)
def stays (g : Nat) : Nat → List Bool → List Nat → Bool
  | _, [], [] => true
  | i, mv :: mvs, b :: bs => (mv || Nat.beq b (g + i)) && stays g (i + 1) mvs bs
  | _, _, _ => false
def lookI (g sz : Nat) (ts : List Nat) (ri : List Root) (mv : List Bool) (tm : TM) (mem : Mem) : Option LS :=
  match Nat.beq tm.sz sz, findAll tm ri, tm.df with
  | true, some rho, [] => match stays g 0 mv rho with
    | true => lookL g ts rho tm mem
    | false => none
  | _, _, _ => none
def endX (g sz : Nat) (ts : List Nat) (ri : List Root) (mv : List Bool) (X : AE → Option LS → Prop) : AE → TM → Mem → Out := fun e tm mem => .need (X e (lookI g sz ts ri mv tm mem)) (.done .any Mem.empty)
theorem stays_spec {g : Nat} : ∀ {mv : List Bool} {rho : List Nat} {i : Nat}, stays g i mv rho = true → mv.length = rho.length ∧ ∀ j, mv[j]? = some false → rho[j]? = some (g + (i + j))
  | [], [], _, _ => ⟨rfl, fun j h => by cases h⟩
  | m :: mvs, b :: bs, i, h => by
    simp only [stays, Bool.and_eq_true, Bool.or_eq_true] at h
    obtain ⟨q1, q2⟩ := stays_spec h.2
    refine ⟨by simp [q1], fun j hj => ?_⟩
    cases j with
    | zero =>
      simp at hj; subst hj
      rcases h.1 with h | h
      · cases h
      · simp [Nat.eq_of_beq_eq_true h]
    | succ j =>
      have := q2 j (by simpa using hj)
      rw [show i + 1 + j = i + (j + 1) by omega] at this
      simpa using this
  | [], _ :: _, _, h => by cases h
  | _ :: _, [], _, h => by cases h
theorem lookI_sound (hgl : C.gl = glFrom 0 C.gd) (hr : Rel C B w0 env tm mem a w) {sz : Nat} {ts : List Nat} {ri : List Root} {mv : List Bool} {s : LS} (h : lookI C.gd.length sz ts ri mv tm mem = some s) :
    a.tmps.size = sz ∧ tm.df = [] ∧ ∃ env', (∀ p ∈ s.sl, p.2.R env' (memX C.gd s.bl).n (a.tmps.getD p.1 undef)) ∧ MR C B w0 env' (memX C.gd s.bl) w ∧ s.bl.length = mv.length ∧ ∀ j, mv[j]? = some false → env' (C.gd.length + j) = env (C.gd.length + j) := by
  unfold lookI at h
  split at h
  · rename_i rho hsz hrho hdf
    split at h
    · rename_i hst
      obtain ⟨q1, q2⟩ := stays_spec hst
      obtain ⟨p1, p2, p3, _, _⟩ := Rel.look hgl hr h
      refine ⟨hr.size.trans (Nat.eq_of_beq_eq_true hsz), hdf, _, p1, p2, p3.trans q1.symm, fun j hj => ?_⟩
      have := q2 j hj
      rw [Nat.zero_add] at this
      unfold envL
      rw [show Nat.blt (C.gd.length + j) C.gd.length = false from by cases hq : Nat.blt (C.gd.length + j) C.gd.length with
        | false => rfl
        | true => have : C.gd.length + j < C.gd.length := Nat.le_of_ble_eq_true hq; omega]
      simp [List.getD_eq_getElem?_getD, this]
    · cases h
  · cases h
def RoundOk {ι : Type} (St : ι → LS) (Inv : ι → Prop) (mu : ι → Nat) (Ex : ι → AE → LS → Prop) (i : ι) : AE → Option LS → Prop
  | .normal, some s => ∃ j, Inv j ∧ mu j < mu i ∧ (∀ e s', Ex j e s' → Ex i e s') ∧ s.fits (St j)
  | .exit id, some s => ∃ s', Ex i (.exit id) s' ∧ s.fits s'
  | .ret, some s => ∃ s', Ex i .ret s' ∧ s.fits s'
  | _, _ => False
theorem rounds (hC : COk C) (hgl : C.gl = glFrom 0 C.gd) {bd : Code} {n sz : Nat} {ts : List Nat} {ri : List Root} {mv : List Bool} {ι : Type} {St : ι → LS} {Inv : ι → Prop} {mu : ι → Nat} {Ex : ι → AE → LS → Prop}
    (step : ∀ i, Inv i → (exec C n (.run bd) (slots sz (St i).sl) (memX C.gd (St i).bl) (endX C.gd.length sz ts ri mv (RoundOk St Inv mu Ex i))).sat (fun _ _ => True)) {Q : Exit → Act → World → Prop} {ae : Nat → Nat} :
    ∀ (m : Nat) (i : ι), mu i = m → Inv i → ∀ (env : Nat → Nat) (a : Act) (w : World), Rel C B w0 env (slots sz (St i).sl) (memX C.gd (St i).bl) a w → (St i).bl.length = mv.length → (∀ j, mv[j]? = some false → env (C.gd.length + j) = ae j) →
      (∀ e s env' a' w', Ex i e s → s.bl.length = mv.length → Rel C B w0 env' (slots sz s.sl) (memX C.gd s.bl) a' w' → (∀ p ∈ s.sl, p.2.R env' (memX C.gd s.bl).n (a'.tmps.getD p.1 undef)) → (∀ j, mv[j]? = some false → env' (C.gd.length + j) = ae j) → Q e.conc a' w') → InLoopJ C.J bd Q a w := by
  intro m
  induction m using Nat.strongRecOn with
  | _ m ih =>
    intro i hm hI env a w hr hlen hae hk
    refine InLoopJ.round (body_step (P := fun e tm' mem' => RoundOk St Inv mu Ex i e (lookI C.gd.length sz ts ri mv tm' mem')) hC (step i hI) hr ?_)
    intro e tm' mem' env' a' w' hP hR hx
    have hkeep : ∀ j, mv[j]? = some false → env' (C.gd.length + j) = ae j := fun j hj => by
      rw [hx.2 _ ?_]
      · exact hae j hj
      · show C.gd.length + j < C.gd.length + (St i).bl.length
        have := (List.getElem?_eq_some_iff.1 hj).1
        omega
    have fin : ∀ s s', lookI C.gd.length sz ts ri mv tm' mem' = some s → s.fits s' → ∃ env2, s'.bl.length = mv.length ∧ Rel C B w0 env2 (slots sz s'.sl) (memX C.gd s'.bl) a' w' ∧ (∀ p ∈ s'.sl, p.2.R env2 (memX C.gd s'.bl).n (a'.tmps.getD p.1 undef)) ∧ (∀ j, mv[j]? = some false → env2 (C.gd.length + j) = ae j) := fun s s' hl hf => by
      obtain ⟨q1, qd, env2, q2, q3, q4, q5⟩ := lookI_sound hgl hR hl
      rw [← hf.2]
      refine ⟨env2, q4, rel_fits q2 q1 qd (dfs_nil hR.defers qd qd) q3 hf.1, fun q hq => ?_, fun j hj => (q5 j hj).trans (hkeep j hj)⟩
      obtain ⟨p, h1, h2, h3⟩ := fitsL_mem hf.1 q hq
      rw [← h2]
      exact AV.fits_R h3 (q2 p h1)
    cases e with
    | normal =>
      cases hl : lookI C.gd.length sz ts ri mv tm' mem' with
      | none => rw [hl] at hP; exact hP.elim
      | some s =>
        rw [hl] at hP
        obtain ⟨j, h1, h2, h3, h4⟩ := hP
        obtain ⟨env2, p1, p2, _, p3⟩ := fin s (St j) hl h4
        exact ih (mu j) (by omega) j rfl h1 env2 a' w' p2 p1 p3 fun e s' env3 a3 w3 he => hk e s' env3 a3 w3 (h3 e s' he)
    | exit id =>
      cases hl : lookI C.gd.length sz ts ri mv tm' mem' with
      | none => rw [hl] at hP; exact hP.elim
      | some s =>
        rw [hl] at hP
        obtain ⟨s', h1, h2⟩ := hP
        obtain ⟨env2, p1, p2, p4, p3⟩ := fin s s' hl h2
        exact hk _ s' env2 a' w' h1 p1 p2 p4 p3
    | ret =>
      cases hl : lookI C.gd.length sz ts ri mv tm' mem' with
      | none => rw [hl] at hP; exact hP.elim
      | some s =>
        rw [hl] at hP
        obtain ⟨s', h1, h2⟩ := hP
        obtain ⟨env2, p1, p2, p4, p3⟩ := fin s s' hl h2
        exact hk _ s' env2 a' w' h1 p1 p2 p4 p3
    | goto l => exact hP.elim
    | panic v => exact hP.elim
def backNo (g n : Nat) (rho : List Nat) (mv : List Bool) (c : Nat) : Option Nat :=
  match Nat.blt c g with
  | true => some c
  | false => match rho[c - g]?, mv[c - g]? with
    | some b, some false => some b
    | some _, some true => some (n + (c - g))
    | _, _ => none
def mergeT (n : Nat) : Tr AB → Nat → List Nat → List Bool → List AB → Tr AB
  | t, j, b :: bs, m :: ms, ab :: abs => mergeT n (match m with
    | true => match ab.wr with
      | true => (t.set b .gone).set (n + j) ab
      | false => t.set b .gone
    | false => match ab.wr with
      | true => t.set b ab
      | false => match t.get b with
        | some old => match old.wr with | true => t.set b .gone | false => t
        | none => t) (j + 1) bs ms abs
  | t, _, _, _, _ => t
def getL (mem : Mem) : Nat → List Bool → List AB
  | _, [] => []
  | i, _ :: ms => (match mem.get i with | some ab => ab | none => .gone) :: getL mem (i + 1) ms
def seqify (t : Nat) (tm : TM) (mem : Mem) : TM × Mem :=
  match tm.get t with
  | .one (.slice b 0 n c) => match mem.get b with
    | some (.cells ty l) => match kindOf l with
      | some k => match intsOf k l, Nat.beq n c && Nat.beq n l.length && Nat.ble n 9223372036854775807 && Nat.blt t tm.sz with
        | some L, true => (tm.set t (.one (.sq b mem.n 0 n)), ⟨mem.n + 1, mem.t.set b (.seq ty k L mem.n)⟩)
        | _, _ => (tm, mem)
      | none => (tm, mem)
    | _ => (tm, mem)
  | _ => (tm, mem)
def seqifyAll : List Nat → TM → Mem → TM × Mem
  | [], tm, mem => (tm, mem)
  | t :: ts, tm, mem => match seqify t tm mem with | (tm', mem') => seqifyAll ts tm' mem'
theorem seqify_sound {t : Nat} (hr : Rel C B w0 env tm mem a w) : ∃ env', Rel C B w0 env' (seqify t tm mem).1 (seqify t tm mem).2 a w ∧ Ext env mem.n env' (seqify t tm mem).2.n := by
  have triv : ∃ env', Rel C B w0 env' tm mem a w ∧ Ext env mem.n env' mem.n := ⟨env, hr, Ext.refl _ _⟩
  unfold seqify
  split
  · rename_i b n c ht
    split
    · rename_i ty l hb
      split
      · rename_i k hk
        split
        · rename_i L hL hc
          simp only [Bool.and_eq_true] at hc
          obtain ⟨⟨⟨h1, h2⟩, h3⟩, h4⟩ := hc
          have h1 := Nat.eq_of_beq_eq_true h1
          have h2 := Nat.eq_of_beq_eq_true h2
          have h3 := Nat.le_of_ble_eq_true h3
          have h4 : t < tm.sz := Nat.le_of_ble_eq_true h4
          obtain ⟨vs, hh, hR, hB⟩ := hr.mem.blk b _ hb
          obtain ⟨e1, e2⟩ := intsOf_R hL hR
          have hlen : L.length = n := by have := hR.length; rw [e1] at this; simpa [h2] using this.symm
          have hbn := hr.mem.lt b _ hb
          let env' : Nat → Nat := fun i => if i < mem.n then env i else n
          have e0 : ∀ i, i < mem.n → env' i = env i := fun i hi => if_pos hi
          have eg : env' mem.n = n := if_neg (by omega)
          have hx : Ext env mem.n env' (mem.n + 1) := ⟨by omega, e0⟩
          have hseq : (AB.seq ty k L mem.n).R env' (mem.n + 1) B w (env' b) := by
            rw [e0 b hbn]
            exact ⟨[], by rw [List.append_nil, ← e1]; exact hh, by rw [eg]; simp [hlen], by omega, e2, hB⟩
          have hget : ∀ i ab, (Tr.set mem.t b (.seq ty k L mem.n)).get i = some ab → (i = b ∧ ab = .seq ty k L mem.n) ∨ (i ≠ b ∧ mem.get i = some ab) := fun i ab hi => by
            by_cases e : i = b
            · subst e; exact .inl ⟨rfl, Tr.get_set_eq _ _ _ _ hi⟩
            · rw [Tr.get_set_ne _ _ _ _ (Ne.symm e)] at hi; exact .inr ⟨e, hi⟩
          refine ⟨env', ⟨hr.size.trans (set_sz _ _ _).symm, fun u => ?_, by rw [set_df]; exact Dfs.ext hx hr.defers, ⟨hr.mem.below, hr.mem.base, fun i ab hi => ?_, fun i ab hi => ?_, fun i j x y hi hj hij hx' hy' => ?_, fun p hp => ?_, hr.mem.gd⟩⟩, hx⟩
          · unfold TM.set
            rw [show Nat.blt t tm.sz = true from Nat.ble_eq_true_of_le h4]
            simp only [TM.get]
            by_cases hut : t = u
            · subst hut
              cases hq : (tm.t.set t (.one (.sq b mem.n 0 n))).get t with
              | none => exact AV.R_any
              | some y =>
                rw [Tr.get_set_eq _ _ _ _ hq]
                have hv := hr.tmp t
                rw [ht] at hv
                obtain ⟨_, hv⟩ := hv
                refine ⟨⟨by omega, by omega⟩, 0, .inl rfl, by rw [eg]; omega, by rw [eg]; exact h3, ?_⟩
                rw [hv, eg, e0 b hbn, ← h1]
                rfl
            · rw [Tr.get_set_ne _ _ _ _ hut]
              exact AV.R_ext hx (hr.tmp u)
          · show i < mem.n + 1
            rcases hget i ab hi with ⟨rfl, _⟩ | ⟨_, hi⟩
            · omega
            · have := hr.mem.lt i ab hi; omega
          · rcases hget i ab hi with ⟨rfl, rfl⟩ | ⟨_, hi⟩
            · exact hseq
            · rw [e0 i (hr.mem.lt i ab hi)]; exact AB.R_ext hx (hr.mem.blk i ab hi)
          · have old : ∀ i ab, (Tr.set mem.t b (.seq ty k L mem.n)).get i = some ab → ab.wr = true → ∃ c, mem.get i = some c ∧ c.wr = true := fun i ab hi hw => by
              rcases hget i ab hi with ⟨rfl, rfl⟩ | ⟨_, hi⟩
              · exact ⟨_, hb, rfl⟩
              · exact ⟨ab, hi, hw⟩
            obtain ⟨x', q1, q2⟩ := old i x hi hx'
            obtain ⟨y', q3, q4⟩ := old j y hj hy'
            rw [e0 i (hr.mem.lt i x' q1), e0 j (hr.mem.lt j y' q3)]
            exact hr.mem.sep i j x' y' q1 q3 hij q2 q4
          · obtain ⟨q1, q2⟩ := hr.mem.gl p hp
            exact ⟨(e0 _ q2).trans q1, by show p.2 < mem.n + 1; omega⟩
        · exact triv
      · exact triv
    · exact triv
  · exact triv
theorem seqifyAll_sound : ∀ {ts : List Nat} {env : Nat → Nat} {tm : TM} {mem : Mem}, Rel C B w0 env tm mem a w → ∃ env', Rel C B w0 env' (seqifyAll ts tm mem).1 (seqifyAll ts tm mem).2 a w ∧ Ext env mem.n env' (seqifyAll ts tm mem).2.n
  | [], env, tm, mem, hr => ⟨env, hr, Ext.refl _ _⟩
  | t :: ts, env, tm, mem, hr => by
    obtain ⟨env1, h1, h2⟩ := seqify_sound (t := t) hr
    obtain ⟨env2, h3, h4⟩ := seqifyAll_sound (ts := ts) h1
    exact ⟨env2, h3, h2.trans h4⟩
def lqF {ι : Type} (G : List (Nat × List SV)) (sz : Nat) (sqs ts : List Nat) (re : List Root) (mv : List Bool) (pi : LS → Option ι) (ok : ι → Prop) (out : ι → (AE → LS → Out) → Out) : TM → Mem → Option ((AE → TM → Mem → Out) → Out) := fun tm0 mem0 =>
  match seqifyAll sqs tm0 mem0 with
  | (tm, mem) =>
  match Nat.beq tm.sz sz, findAll tm re, tm.df with
  | true, some rho, [] => match lookL G.length ts rho tm mem, Nat.beq rho.length mv.length with
    | some s, true => match pi s with
      | some i => some fun k => .need (ok i) (out i fun e s' => match Nat.beq s'.bl.length mv.length with
        | true => k e (slots sz (s'.sl.map fun p => (p.1, p.2.ren (backNo G.length mem.n rho mv)))) ⟨mem.n + mv.length, mergeT mem.n mem.t 0 rho mv ((getL (memX G s'.bl) G.length mv).map (AB.ren (backNo G.length mem.n rho mv)))⟩
        | false => .bad 84)
      | none => none
    | _, _ => none
  | _, _, _ => none
theorem mergeT_get {n : Nat} : ∀ {rho : List Nat} {mv : List Bool} {bl : List AB} {t : Tr AB} {j i : Nat} {ab : AB}, rho.length = mv.length → bl.length = mv.length → (mergeT n t j rho mv bl).get i = some ab →
    ab = .gone ∧ i ∈ rho ∨ (∃ p : Nat, rho[p]? = some i ∧ mv[p]? = some false ∧ bl[p]? = some ab ∧ ab.wr = true) ∨ (∃ p : Nat, mv[p]? = some true ∧ bl[p]? = some ab ∧ i = n + (j + p) ∧ ab.wr = true) ∨
      (t.get i = some ab ∧ (i ∈ rho → ab.wr = false))
  | [], [], [], t, j, i, ab, _, _, h => .inr (.inr (.inr ⟨h, fun h => by cases h⟩))
  | b :: bs, m :: ms, x :: xs, t, j, i, ab, h1, h2, h => by
    have ih := mergeT_get (rho := bs) (mv := ms) (bl := xs) (j := j + 1) (i := i) (ab := ab) (by simpa using h1) (by simpa using h2) h
    rcases ih with ⟨q1, q2⟩ | ⟨p, q1, q2, q3, q4⟩ | ⟨p, q1, q2, q3, q4⟩ | ⟨q1, q2⟩
    · exact .inl ⟨q1, List.mem_cons_of_mem _ q2⟩
    · exact .inr (.inl ⟨p + 1, by simpa using q1, by simpa using q2, by simpa using q3, q4⟩)
    · exact .inr (.inr (.inl ⟨p + 1, by simpa using q1, by simpa using q2, by omega, q4⟩))
    · cases m with
      | true =>
        dsimp only at q1
        have gone : (t.set b .gone).get i = some ab → ab = .gone ∧ i ∈ b :: bs ∨ (t.get i = some ab ∧ (i ∈ b :: bs → ab.wr = false)) := fun q1 => by
          by_cases hb : i = b
          · subst hb
            exact .inl ⟨Tr.get_set_eq _ _ _ _ q1, List.mem_cons_self ..⟩
          · rw [Tr.get_set_ne _ _ _ _ (Ne.symm hb)] at q1
            refine .inr ⟨q1, fun hm => ?_⟩
            rcases List.mem_cons.1 hm with e | hm
            · exact absurd e hb
            · exact q2 hm
        cases hw : x.wr with
        | true =>
          rw [hw] at q1
          dsimp only at q1
          by_cases hi : i = n + j
          · subst hi
            have := Tr.get_set_eq _ _ _ _ q1
            subst this
            exact .inr (.inr (.inl ⟨0, rfl, rfl, by omega, hw⟩))
          · rw [Tr.get_set_ne _ _ _ _ (Ne.symm hi)] at q1
            rcases gone q1 with h | h
            · exact .inl h
            · exact .inr (.inr (.inr h))
        | false =>
          rw [hw] at q1
          dsimp only at q1
          rcases gone q1 with h | h
          · exact .inl h
          · exact .inr (.inr (.inr h))
      | false =>
        dsimp only at q1
        cases hw : x.wr with
        | true =>
          rw [hw] at q1
          dsimp only at q1
          by_cases hb : i = b
          · subst hb
            have := Tr.get_set_eq _ _ _ _ q1
            subst this
            exact .inr (.inl ⟨0, rfl, rfl, rfl, hw⟩)
          · rw [Tr.get_set_ne _ _ _ _ (Ne.symm hb)] at q1
            refine .inr (.inr (.inr ⟨q1, fun hm => ?_⟩))
            rcases List.mem_cons.1 hm with e | hm
            · exact absurd e hb
            · exact q2 hm
        | false =>
          rw [hw] at q1
          dsimp only at q1
          split at q1
          · rename_i old hold
            split at q1
            · by_cases hb : i = b
              · subst hb
                exact .inl ⟨Tr.get_set_eq _ _ _ _ q1, List.mem_cons_self ..⟩
              · rw [Tr.get_set_ne _ _ _ _ (Ne.symm hb)] at q1
                refine .inr (.inr (.inr ⟨q1, fun hm => ?_⟩))
                rcases List.mem_cons.1 hm with e | hm
                · exact absurd e hb
                · exact q2 hm
            · rename_i ho
              refine .inr (.inr (.inr ⟨q1, fun hm => ?_⟩))
              rcases List.mem_cons.1 hm with e | hm
              · subst e; rw [q1] at hold; cases hold; exact ho
              · exact q2 hm
          · rename_i hold
            refine .inr (.inr (.inr ⟨q1, fun hm => ?_⟩))
            rcases List.mem_cons.1 hm with e | hm
            · subst e; rw [q1] at hold; cases hold
            · exact q2 hm
  | [], [], _ :: _, _, _, _, _, _, h, _ => by cases h
  | [], _ :: _, _, _, _, _, _, h, _, _ => by cases h
  | _ :: _, [], _, _, _, _, _, h, _, _ => by cases h
  | _ :: _, _ :: _, [], _, _, _, _, _, h, _ => by cases h
theorem AB.not_base {env : Nat → Nat} {m : Nat} {w : World} {b : Nat} {ab : AB} (h : ab.R env m B w b) (hw : ab.wr = true) : ¬ B b := by
  cases ab with
  | gone => cases hw
  | cells t l => obtain ⟨_, _, _, q⟩ := h; exact q
  | row t l => obtain ⟨_, _, _, _, q⟩ := h; exact q
  | ro l => cases hw
  | seq t k L g => obtain ⟨_, _, _, _, _, q⟩ := h; exact q
  | rseq k L g => cases hw
  | mp k kv es => obtain ⟨_, _, _, _, _, q⟩ := h; exact q
  | fz t l => obtain ⟨_, _, _, _, q⟩ := h; exact q
  | ob x => obtain ⟨_, _, _, q⟩ := h; exact q
  | num c => cases hw
theorem AB.R_wr {env : Nat → Nat} {m : Nat} {B' : Nat → Prop} {w : World} {b : Nat} {ab : AB} (h : ab.R env m B w b) (hw : ab.wr = true) (hB : ¬ B' b) : ab.R env m B' w b := by
  cases ab with
  | gone => cases hw
  | cells t l => obtain ⟨vs, q1, q2, _⟩ := h; exact ⟨vs, q1, q2, hB⟩
  | row t l => obtain ⟨vs, rest, q1, q2, _⟩ := h; exact ⟨vs, rest, q1, q2, hB⟩
  | ro l => cases hw
  | seq t k L g => obtain ⟨rest, q1, q2, q3, q4, _⟩ := h; exact ⟨rest, q1, q2, q3, q4, hB⟩
  | rseq k L g => cases hw
  | mp k kv es => obtain ⟨ms, c, q1, q2, q3, _⟩ := h; exact ⟨ms, c, q1, q2, q3, hB⟩
  | fz t l => obtain ⟨vs, fr, q1, q2, _⟩ := h; exact ⟨vs, fr, q1, q2, hB⟩
  | ob x => obtain ⟨o, q1, q2, _⟩ := h; exact ⟨o, q1, q2, hB⟩
  | num c => cases hw
theorem AB.R_ro {env : Nat → Nat} {m : Nat} {B' : Nat → Prop} {w : World} {b : Nat} {ab : AB} (h : ab.R env m B w b) (hw : ab.wr = false) (hB : B b → B' b) : ab.R env m B' w b := by
  cases ab with
  | gone => trivial
  | cells t l => cases hw
  | row t l => cases hw
  | ro l => obtain ⟨vs, rest, t, fr, q1, q2, q3⟩ := h; exact ⟨vs, rest, t, fr, q1, q2, hB q3⟩
  | seq t k L g => cases hw
  | rseq k L g =>
    rcases h with h | ⟨front, rest, t, fr, q1, q2, q3⟩
    · exact .inl h
    · exact .inr ⟨front, rest, t, fr, q1, q2, hB q3⟩
  | mp k kv es => cases hw
  | fz t l => cases hw
  | ob x => cases hw
  | num c => exact h
def guard (w : World) (env : Nat → Nat) (mem : Mem) (b : Nat) : Prop := b < w.heap.size ∧ ∀ i ab, mem.get i = some ab → ab.wr = true → env i ≠ b
theorem MR.guard (h : MR C B w0 env mem w) : MR C (guard w env mem) w env mem w ∧ ∀ b, B b → Go.Ax.guard w env mem b := by
  have hB : ∀ b, B b → Go.Ax.guard w env mem b := fun b hb => ⟨h.base b hb, fun i ab hi hw e => AB.not_base (h.blk i ab hi) hw (e ▸ hb)⟩
  refine ⟨⟨Keep.refl _ _, fun b hb => hb.1, h.lt, fun i ab hi => ?_, h.sep, h.gl, fun p hp => ?_⟩, hB⟩
  · cases hw : ab.wr with
    | true => exact AB.R_wr (h.blk i ab hi) hw fun hg => hg.2 i ab hi hw rfl
    | false => exact AB.R_ro (h.blk i ab hi) hw (hB _)
  · obtain ⟨q1, q2⟩ := h.gd p hp
    exact ⟨hB _ q1, q2⟩
theorem getL_len {mem : Mem} : ∀ {ms : List Bool} {i : Nat}, (getL mem i ms).length = ms.length
  | [], _ => rfl
  | _ :: ms, i => by simp [getL, getL_len (ms := ms)]
theorem getL_get {mem : Mem} : ∀ {ms : List Bool} {i p : Nat} {ab : AB}, (getL mem i ms)[p]? = some ab → mem.get (i + p) = some ab ∨ ab = .gone
  | [], _, _, _, h => by cases h
  | m :: ms, i, p, ab, h => by
    cases p with
    | zero =>
      simp only [getL, List.getElem?_cons_zero, Option.some.injEq] at h
      subst h
      cases hq : mem.get i with
      | none => exact .inr rfl
      | some ab => exact .inl rfl
    | succ p =>
      simp only [getL, List.getElem?_cons_succ] at h
      rw [show i + (p + 1) = i + 1 + p by omega]
      exact getL_get h
theorem lq_rule {C : Cfg} (hC : COk C) (hgl : C.gl = glFrom 0 C.gd) {bd : Code} {n sz : Nat} {sqs ts : List Nat} {re ri : List Root} {mv : List Bool} {ι : Type} {pi : LS → Option ι} {St : ι → LS} {Inv : ι → Prop} {mu : ι → Nat} {Ex : ι → AE → LS → Prop} {ok : ι → Prop} {out : ι → (AE → LS → Out) → Out}
    (hpi : ∀ s i, pi s = some i → s.fits (St i)) (hok : ∀ i, ok i → Inv i)
    (hout : ∀ (K : AV → Mem → Prop) k i, ok i → (out i k).sat K → ∀ e s, Ex i e s → (k e s).sat K)
    (step : ∀ i, Inv i → (exec C n (.run bd) (slots sz (St i).sl) (memX C.gd (St i).bl) (endX C.gd.length sz ts ri mv (RoundOk St Inv mu Ex i))).sat (fun _ _ => True)) :
    LoopQ C bd (lqF C.gd sz sqs ts re mv pi ok out) := by
  intro K k tm0 mem0 o hF hs B w0 env0 a w Q hr0 hk0
  obtain ⟨env, hr, hx0⟩ := seqifyAll_sound (ts := sqs) hr0
  unfold lqF at hF
  generalize seqifyAll sqs tm0 mem0 = tmm at hF hr hx0
  obtain ⟨tm, mem⟩ := tmm
  dsimp only at hr hx0
  have hk := fun e tm' mem' env' a' w' (q1 : (k e tm' mem').sat K) (q2 : Rel C B w0 env' tm' mem' a' w') (q3 : Ext env mem.n env' mem'.n) => hk0 e tm' mem' env' a' w' q1 q2 (hx0.trans q3)
  dsimp only at hF
  split at hF
  case h_2 => cases hF
  rename_i rho hsz hrho hdf
  split at hF
  case h_2 => cases hF
  rename_i s hlook hlen
  split at hF
  case h_2 => cases hF
  rename_i i hi
  obtain rfl := Option.some.inj hF
  obtain ⟨hoki, hs⟩ := hs
  have hfit := hpi s i hi
  have hlen := Nat.eq_of_beq_eq_true hlen
  obtain ⟨l1, l2, l3, l4, l5⟩ := Rel.look hgl hr hlook
  obtain ⟨g1, g2⟩ := l2.guard
  have hrel : Rel C (guard w (envL C.gd.length rho env) (memX C.gd s.bl)) w (envL C.gd.length rho env) (slots sz (St i).sl) (memX C.gd (St i).bl) a w := by
    rw [← hfit.2]
    exact rel_fits l1 (hr.size.trans (Nat.eq_of_beq_eq_true hsz)) hdf (dfs_nil hr.defers hdf hdf) g1 hfit.1
  have hat : ∀ j b, rho[j]? = some b → envL C.gd.length rho env (C.gd.length + j) = env b := fun j b hj => by
    unfold envL
    rw [show Nat.blt (C.gd.length + j) C.gd.length = false from by cases hq : Nat.blt (C.gd.length + j) C.gd.length with
      | false => rfl
      | true => have : C.gd.length + j < C.gd.length := Nat.le_of_ble_eq_true hq; omega]
    simp [List.getD_eq_getElem?_getD, hj]
  refine rounds hC hgl step (ae := fun j => env (rho.getD j 0)) (mu i) i rfl (hok i hoki) _ a w hrel (by rw [← hfit.2, l3, hlen]) (fun j hj => ?_) ?_
  · have hlt := (List.getElem?_eq_some_iff.1 hj).1
    have : rho[j]? = some (rho.getD j 0) := by simp [List.getD_eq_getElem?_getD, List.getElem?_eq_getElem (show j < rho.length by omega)]
    exact hat j _ this
  intro e s' env3 a' w' hex hbl hR hsl hkeep
  have hs := hout K _ i hoki hs e s' hex
  rw [hbl, Nat.beq_refl] at hs
  dsimp only at hs
  have hm := hR.mem
  have n3 : (memX C.gd s'.bl).n = C.gd.length + mv.length := by simp [memX, hbl]
  let env4 : Nat → Nat := fun b => if b < mem.n then env b else env3 (C.gd.length + (b - mem.n))
  have e1 : ∀ b, b < mem.n → env4 b = env b := fun b hb => if_pos hb
  have e2 : ∀ j, env4 (mem.n + j) = env3 (C.gd.length + j) := fun j => by
    show (if mem.n + j < mem.n then _ else _) = _
    rw [if_neg (by omega), show mem.n + j - mem.n = j by omega]
  have hgn : C.gd.length ≤ mem.n := by
    rcases Nat.eq_zero_or_pos C.gd.length with h0 | h0
    · omega
    · have := (glob_env hgl hr.mem (List.getElem?_eq_getElem (show C.gd.length - 1 < C.gd.length by omega))).2
      omega
  have hkept : ∀ j b, rho[j]? = some b → mv[j]? = some false → env3 (C.gd.length + j) = env b ∧ b < mem.n := fun j b hb hj => by
    refine ⟨?_, (l5 b (List.mem_of_getElem? hb)).2⟩
    rw [hkeep j hj]
    simp [List.getD_eq_getElem?_getD, hb]
  have hren : RenOk (backNo C.gd.length mem.n rho mv) env3 env4 (mem.n + mv.length) := fun c c' h => by
    unfold backNo at h
    split at h
    · rename_i hc
      cases h
      have hc : c < C.gd.length := Nat.le_of_ble_eq_true hc
      refine ⟨by omega, ?_⟩
      have hp := List.getElem?_eq_getElem hc
      rw [e1 c (by omega), (glob_env hgl hr.mem hp).1, (glob_env hgl hm hp).1]
    · rename_i hc
      have hc := blt_false hc
      split at h
      · rename_i b hb hmv
        cases h
        obtain ⟨q1, q2⟩ := hkept _ _ hb hmv
        refine ⟨by omega, ?_⟩
        rw [e1 _ q2, ← q1, show C.gd.length + (c - C.gd.length) = c by omega]
      · rename_i b hb hmv
        cases h
        have := (List.getElem?_eq_some_iff.1 hmv).1
        refine ⟨by omega, ?_⟩
        rw [e2, show C.gd.length + (c - C.gd.length) = c by omega]
      · cases h
  have hx4 : Ext env mem.n env4 (mem.n + mv.length) := ⟨Nat.le_add_right _ _, e1⟩
  have hK : Keep B w0 w' := hr.mem.below.trans ⟨hm.below.grown, fun b hb => hm.below.block b (g2 b hb)⟩
  -- the part's writable blocks
  have hpart : ∀ p i ab, ((getL (memX C.gd s'.bl) C.gd.length mv).map (AB.ren (backNo C.gd.length mem.n rho mv)))[p]? = some ab → ab.wr = true → env4 i = env3 (C.gd.length + p) →
      (∃ ab0, (memX C.gd s'.bl).get (C.gd.length + p) = some ab0 ∧ ab0.wr = true) ∧ ab.R env4 (mem.n + mv.length) B w' (env4 i) := fun p i ab h hw hi => by
    rw [List.getElem?_map] at h
    obtain ⟨ab0, h0, rfl⟩ := Option.map_eq_some_iff.1 h
    rcases getL_get h0 with h0 | rfl
    · have hb := AB.ren_R hren (hm.blk _ _ h0)
      refine ⟨⟨ab0, h0, AB.ren_wr hw⟩, ?_⟩
      rw [hi]
      exact AB.R_wr hb hw fun hB => AB.not_base hb hw (g2 _ hB)
    · cases hw
  have hguard : ∀ i ab, mem.get i = some ab → (i ∈ rho → ab.wr = false) → ab.wr = true → guard w (envL C.gd.length rho env) (memX C.gd s.bl) (env i) := fun i ab hi hnr hw => by
    refine ⟨(AB.heap_lt (hr.mem.blk i ab hi) hw).1, fun c abc hc hwc he => ?_⟩
    rcases memX_get hc with ⟨_, q, _, rfl⟩ | ⟨j, rfl, hj⟩
    · cases hwc
    · obtain ⟨b, hb, ab1, h1, h2⟩ : ∃ b, rho[j]? = some b ∧ ∃ ab1, mem.get b = some ab1 ∧ ab1.wr = true := by
        unfold lookL at hlook
        split at hlook
        · cases hlook
          rw [List.getElem?_map] at hj
          obtain ⟨b, hb, he⟩ := Option.map_eq_some_iff.1 hj
          refine ⟨b, hb, ?_⟩
          cases hq : mem.get b with
          | none => rw [hq] at he; subst he; cases hwc
          | some ab1 => rw [hq] at he; subst he; exact ⟨ab1, rfl, AB.ren_wr hwc⟩
        · cases hlook
      rw [hat j b hb] at he
      have hne : b ≠ i := fun e => by
        have := hnr (e ▸ List.mem_of_getElem? hb)
        rw [this] at hw; cases hw
      exact hr.mem.sep b i ab1 ab h1 hi hne h2 hw he
  have alen : ((getL (memX C.gd s'.bl) C.gd.length mv).map (AB.ren (backNo C.gd.length mem.n rho mv))).length = mv.length := by simp [getL_len]
  have kinds : ∀ i ab, (mergeT mem.n mem.t 0 rho mv ((getL (memX C.gd s'.bl) C.gd.length mv).map (AB.ren (backNo C.gd.length mem.n rho mv)))).get i = some ab →
      (ab = .gone ∧ i < mem.n) ∨ (∃ p ab0, i < mem.n + mv.length ∧ ab.wr = true ∧ env4 i = env3 (C.gd.length + p) ∧ (memX C.gd s'.bl).get (C.gd.length + p) = some ab0 ∧ ab0.wr = true ∧ ab.R env4 (mem.n + mv.length) B w' (env4 i) ∧ ((rho[p]? = some i ∧ mv[p]? = some false) ∨ (i = mem.n + p ∧ mv[p]? = some true))) ∨
      (mem.get i = some ab ∧ (i ∈ rho → ab.wr = false)) := fun i ab hi => by
    rcases mergeT_get hlen alen hi with ⟨q1, q2⟩ | ⟨p, q1, q2, q3, q4⟩ | ⟨p, q1, q2, q3, q4⟩ | q
    · exact .inl ⟨q1, (l5 i q2).2⟩
    · obtain ⟨h1, h2⟩ := hkept p i q1 q2
      have he : env4 i = env3 (C.gd.length + p) := (e1 i h2).trans h1.symm
      obtain ⟨⟨ab0, p1, p2⟩, p3⟩ := hpart p i ab q3 q4 he
      exact .inr (.inl ⟨p, ab0, by omega, q4, he, p1, p2, p3, .inl ⟨q1, q2⟩⟩)
    · have hi : i = mem.n + p := by omega
      have he : env4 i = env3 (C.gd.length + p) := by rw [hi]; exact e2 p
      obtain ⟨⟨ab0, p1, p2⟩, p3⟩ := hpart p i ab q2 q4 he
      have := (List.getElem?_eq_some_iff.1 q1).1
      exact .inr (.inl ⟨p, ab0, by omega, q4, he, p1, p2, p3, .inr ⟨hi, q1⟩⟩)
    · exact .inr (.inr q)
  refine hk e _ _ env4 a' w' hs ⟨hR.size.trans (slots_sz.trans slots_sz.symm), fun t => slots_R fun p hp ht => ?_, by rw [slots_df]; exact dfs_nil hR.defers slots_df rfl, ⟨hK, fun b hb => Nat.lt_of_lt_of_le (hr.mem.base b hb) hm.below.grown.size, fun i ab hi => ?_, fun i ab hi => ?_, fun i j x y hi hj hij hx hy => ?_, fun p hp => ?_, hr.mem.gd.below ⟨hm.below.grown, fun b hb => hm.below.block b (g2 b hb)⟩⟩⟩ hx4
  · obtain ⟨q, hq, rfl⟩ := List.mem_map.1 hp
    dsimp only at ht
    subst ht
    have := AV.ren_R hren (hsl q hq)
    exact this
  · rcases kinds i ab hi with ⟨_, h⟩ | ⟨_, _, h, _⟩ | ⟨h, _⟩
    · show i < mem.n + mv.length; omega
    · exact h
    · have := hr.mem.lt i ab h
      show i < mem.n + mv.length; omega
  · rcases kinds i ab hi with ⟨rfl, _⟩ | ⟨_, _, _, _, _, _, _, h, _⟩ | ⟨h1, h2⟩
    · trivial
    · exact h
    · rw [e1 i (hr.mem.lt i ab h1)]
      have hb := AB.R_ext hx4 (hr.mem.blk i ab h1)
      refine AB.R_same hb (fun hw => ?_) (fun hB => hm.below.block _ (g2 _ hB))
      exact hm.below.block _ (hguard i ab h1 h2 hw)
  · rcases kinds i x hi with ⟨rfl, _⟩ | ⟨p, _, _, _, he, h1, h2, _, h3⟩ | ⟨h1, h2⟩
    · cases hx
    · rcases kinds j y hj with ⟨rfl, _⟩ | ⟨q, _, _, _, he', h1', h2', _, h3'⟩ | ⟨h1', h2'⟩
      · cases hy
      · rw [he, he']
        refine hm.sep _ _ _ _ h1 h1' (fun e => hij ?_) h2 h2'
        have e : p = q := by omega
        subst e
        rcases h3 with ⟨r1, r2⟩ | ⟨r1, r2⟩ <;> rcases h3' with ⟨r1', r2'⟩ | ⟨r1', r2'⟩
        · rw [r1] at r1'; exact Option.some.inj r1'
        · rw [r2] at r2'; cases r2'
        · rw [r2] at r2'; cases r2'
        · omega
      · rw [he, e1 j (hr.mem.lt j y h1')]
        exact fun e => AB.not_base (hm.blk _ _ h1) h2 (e ▸ hguard j y h1' h2' hy)
    · rcases kinds j y hj with ⟨rfl, _⟩ | ⟨q, _, _, _, he', h1', h2', _, h3'⟩ | ⟨h1', h2'⟩
      · cases hy
      · rw [he', e1 i (hr.mem.lt i x h1)]
        exact fun e => AB.not_base (hm.blk _ _ h1') h2' (e ▸ hguard i x h1 h2 hx)
      · rw [e1 i (hr.mem.lt i x h1), e1 j (hr.mem.lt j y h1')]
        exact hr.mem.sep i j x y h1 h1' hij hx hy
  · obtain ⟨q1, q2⟩ := hr.mem.gl p hp
    exact ⟨(e1 _ q2).trans q1, by show p.2 < mem.n + mv.length; omega⟩
end
end Go.Ax

namespace Go.Ax
open Go Go.RowKit
section
variable {H : Type} {enc : TypeId × Value → H} {P : Program} {w : World} {spare : Nat → Bool} {held : Bool}
theorem wf_ok {k : IntKind} {n : Int} (h : (Lit.int k n).wf = true) : okI k n := by
  simp only [Lit.wf, Bool.and_eq_true] at h
  exact ⟨of_decide_eq_true h.1, of_decide_eq_true h.2⟩
theorem lies_of_trod {t e : TypeId} {k : IntKind} {fuel : Nat} {v : Value} {x : DataW H × List MemPlace} (ht : P.underlying t = some (.slice e)) (he : P.underlying e = some (.int k)) (hc : P.cellsOf e = 1)
    (h : DataW.trod enc P w 0 spare held fuel t [v] = some x) : ∃ M, Lies w v k M := by
  rcases Go.ChangeShapes.open_ints ht he hc h with ⟨hv, _⟩ | ⟨a, len, cap, zs, hv, _, hle, hcap, hlen, _, hcell, hwf⟩
  · cases hv
    exact ⟨[], none, 0, rfl, Nat.le_refl _, by omega, by simp, 0, 0, .inl rfl⟩
  · cases hv
    have hz : len ≤ zs.length := by rw [hlen]; split <;> omega
    have hl : (zs.take len).length = len := by simp; omega
    refine ⟨zs.take len, some a, cap, by rw [hl], by omega, by unfold maxLen at hcap; omega, fun n hn => wf_ok (hwf n (List.mem_of_mem_take hn)), a.block, a.off, ?_⟩
    by_cases h0 : len = 0
    · subst h0; exact .inl (by simp)
    · have h1 := hcell 0 (by omega)
      have e0 : a.add 0 = a := rfl
      rw [e0] at h1
      unfold World.cell? at h1
      split at h1
      · rename_i c t' fr hh
        split at h1
        · cases h1
        · rename_i hs
          have hs : a.spot = none := by simpa using hs
          obtain ⟨b, off, sp⟩ := a
          dsimp only at hs hh h1 ⊢
          subst hs
          have hat : ∀ i, i < len → c[off + i]? = some (.int k (zs.getD i 0)) := fun i hi => by
            have := hcell i (by omega)
            unfold World.cell? at this
            have eb : (Addr.add ⟨b, off, none⟩ i).block = b := by unfold Addr.add; split <;> rfl
            have eo : (Addr.add ⟨b, off, none⟩ i).off = off + i := by unfold Addr.add; split <;> simp_all
            have es : (Addr.add ⟨b, off, none⟩ i).spot = none := by unfold Addr.add; split <;> rfl
            rw [eb, hh] at this
            simpa [es, eo] using this
          have hsz : off + len ≤ c.toList.length := by
            have := hat (len - 1) (by omega)
            obtain ⟨q, _⟩ := Array.getElem?_eq_some_iff.1 this
            rw [Array.length_toList]; omega
          refine .inr ⟨rfl, c.toList.take off, c.toList.drop (off + len), t', fr, by rw [List.length_take]; omega, ?_⟩
          rw [hh]
          have key : (c.toList.drop off).take len = (zs.take len).map (Value.int k) := by
            refine List.ext_getElem (by simp at hsz ⊢; omega) fun i h1 h2 => ?_
            have hi : i < len := by simp at h1; omega
            have := hat i hi
            rw [← Array.getElem?_toList, List.getElem?_eq_some_iff] at this
            obtain ⟨q1, q2⟩ := this
            simp only [List.getElem_take, List.getElem_drop, List.getElem_map]
            rw [q2]
            have : i < zs.length := by omega
            simp [this]
          have e : c.toList = c.toList.take off ++ ((zs.take len).map (Value.int k) ++ c.toList.drop (off + len)) := by
            rw [← key, ← List.drop_drop, List.take_append_drop, List.take_append_drop]
          rw [← e]
      · cases h1
def entOf (P : Program) (t : TypeId) : Option SE := match P.underlying t with
  | some (.int k) => some (.w k)
  | some .bool => some .b
  | some (.slice e) => match P.underlying e with
    | some (.int k) => match Nat.beq (P.cellsOf e) 1 with | true => some (.s k) | false => none
    | _ => none
  | _ => none
theorem ent_lies {t : TypeId} {se : SE} {fuel : Nat} {v : Value} {x : DataW H × List MemPlace} (hs : entOf P t = some se) (h : DataW.trod enc P w 0 spare held fuel t [v] = some x) : ∃ es, ArgLies w se es v := by
  unfold entOf at hs
  split at hs
  · rename_i k hu
    cases hs
    cases fuel with
    | zero => cases h
    | succ n =>
      unfold DataW.trod at h
      rw [hu] at h
      cases v with
      | int k' n' =>
        simp only at h
        split at h
        · rename_i hq
          obtain ⟨rfl, hq⟩ := hq
          exact ⟨[n'], n', rfl, rfl, wf_ok hq⟩
        · cases h
      | _ => simp at h
  · rename_i hu
    cases hs
    cases fuel with
    | zero => cases h
    | succ n =>
      unfold DataW.trod at h
      rw [hu] at h
      cases v with
      | bool c => exact ⟨[iteI c 1 0], c, rfl, rfl⟩
      | _ => simp at h
  · rename_i e hu
    split at hs
    · rename_i k he
      split at hs
      · rename_i hc
        cases hs
        exact lies_of_trod hu he (Nat.eq_of_beq_eq_true hc) h
      · cases hs
    · cases hs
  · cases hs
def fieldsOf (P : Program) : Nat → List Field → Option (List SE)
  | _, [] => some []
  | i, f :: fs => match Nat.beq f.offset i && Nat.beq (P.cellsOf f.type) 1, entOf P f.type, fieldsOf P (i + 1) fs with
    | true, some e, some es => some (e :: es)
    | _, _, _ => none
def flatP (P : Program) (g : TypeId → Option (List SE)) : List (Nat × TypeId) → Nat → Option (List SE)
  | [], _ => some []
  | (o, t) :: pl, i => match Nat.beq o i, g t with
    | true, some es => match Nat.beq es.length (P.cellsOf t), flatP P g pl (i + P.cellsOf t) with
      | true, some r => some (es ++ r)
      | _, _ => none
    | _, _ => none
def flatE (P : Program) : Nat → TypeId → Option (List SE)
  | 0, _ => none
  | f + 1, t => match P.underlying t with
    | some (.struct fs) => match flatP P (flatE P f) (fs.toList.map fun x => (x.offset, x.type)) 0 with
      | some es => match Nat.beq es.length (P.cellsOf t) with | true => some es | false => none
      | none => none
    | some (.array n e) => match flatP P (flatE P f) ((List.range n).map fun i => (i * P.cellsOf e, e)) 0 with
      | some es => match Nat.beq es.length (P.cellsOf t) with | true => some es | false => none
      | none => none
    | _ => match entOf P t with | some e => some [e] | none => none
def shEOf (P : Program) (t : TypeId) : Option SH := match P.underlying t with
  | some (.struct fs) => match rowSh P t with
    | some (.l k n) => some (.one (.l k n))
    | _ => match fieldsOf P 0 fs.toList, Nat.beq fs.toList.length (P.cellsOf t) with
      | some es, true => some (.grp es)
      | _, _ => match flatE P 9 t with | some es => some (.grp es) | none => none
  | some (.array _ _) => match rowSh P t with
    | some (.l k n) => some (.one (.l k n))
    | _ => none
  | _ => match entOf P t with | some e => some (.one e) | none => none
def shsE (P : Program) : List TypeId → Option (List SH)
  | [] => some []
  | t :: ts => match shEOf P t, shsE P ts with | some s, some l => some (s :: l) | _, _ => none
theorem fields_lies {cs : List Value} {fuel : Nat} : ∀ {fs : List Field} {i : Nat} {es : List SE} {xs : List (DataW H × List MemPlace)}, fieldsOf P i fs = some es → i + fs.length = cs.length →
    (fs.mapM fun f => DataW.trod enc P w 0 spare held fuel f.type ((cs.drop f.offset).take (P.cellsOf f.type))) = some xs → es.length = fs.length ∧ ∃ ess : List (List Int), ess.length = es.length ∧ ∀ (j : Nat) (e : SE), es[j]? = some e → ∃ v, cs[i + j]? = some v ∧ ArgLies w e (ess.getD j []) v
  | [], i, es, xs, h, _, _ => by cases h; exact ⟨rfl, [], rfl, fun j e hj => by cases hj⟩
  | f :: fs, i, es, xs, h, hl, hx => by
    simp only [fieldsOf] at h
    split at h
    · rename_i e es' hb he hes
      cases h
      simp only [Bool.and_eq_true] at hb
      have ho := Nat.eq_of_beq_eq_true hb.1
      have hc := Nat.eq_of_beq_eq_true hb.2
      rw [List.mapM_cons] at hx
      simp only [List.length_cons] at hl
      have hi : i < cs.length := by omega
      have hcell : (cs.drop f.offset).take (P.cellsOf f.type) = [cs[i]] := by
        rw [ho, hc, List.drop_eq_getElem_cons hi, List.take_succ_cons, List.take_zero]
      rw [hcell] at hx
      cases h1 : DataW.trod enc P w 0 spare held fuel f.type [cs[i]] with
      | none => rw [h1] at hx; simp at hx
      | some y =>
        rw [h1] at hx
        cases h2 : (fs.mapM fun f => DataW.trod enc P w 0 spare held fuel f.type ((cs.drop f.offset).take (P.cellsOf f.type))) with
        | none => rw [h2] at hx; simp at hx
        | some ys =>
          obtain ⟨es0, q1⟩ := ent_lies he h1
          obtain ⟨q2, ess, q3, q4⟩ := fields_lies hes (by omega) h2
          refine ⟨by simp [q2], es0 :: ess, by simp [q3], fun j e' hj => ?_⟩
          cases j with
          | zero => simp at hj; subst hj; exact ⟨cs[i], by simp [hi], q1⟩
          | succ j =>
            obtain ⟨v, r1, r2⟩ := q4 j e' (by simpa using hj)
            exact ⟨v, by rw [show i + (j + 1) = i + 1 + j by omega]; exact r1, r2⟩
    · cases h
def LiesL (w : World) (es : List SE) (cs : List Value) : Prop := es.length = cs.length ∧ ∃ ess : List (List Int), ess.length = es.length ∧ ∀ (j : Nat) (e : SE), es[j]? = some e → ∃ v, cs[j]? = some v ∧ ArgLies w e (ess.getD j []) v
theorem LiesL.append {es es' : List SE} {cs cs' : List Value} (h : LiesL w es cs) (h' : LiesL w es' cs') : LiesL w (es ++ es') (cs ++ cs') := by
  obtain ⟨h1, ess, h2, h3⟩ := h
  obtain ⟨k1, ess', k2, k3⟩ := h'
  refine ⟨by simp [h1, k1], ess ++ ess', by simp [h2, k2], fun j e hj => ?_⟩
  by_cases hlt : j < es.length
  · rw [List.getElem?_append_left hlt] at hj
    obtain ⟨v, q1, q2⟩ := h3 j e hj
    refine ⟨v, by rw [List.getElem?_append_left (by omega)]; exact q1, ?_⟩
    rw [List.getD_eq_getElem?_getD, List.getElem?_append_left (by omega), ← List.getD_eq_getElem?_getD]
    exact q2
  · rw [List.getElem?_append_right (by omega)] at hj
    obtain ⟨v, q1, q2⟩ := k3 _ e hj
    refine ⟨v, by rw [List.getElem?_append_right (by omega), ← h1]; exact q1, ?_⟩
    rw [List.getD_eq_getElem?_getD, List.getElem?_append_right (by omega), ← List.getD_eq_getElem?_getD, h2]
    exact q2
theorem flatP_lies {α : Type} {g : TypeId → Option (List SE)} {rd : α → Option (DataW H × List MemPlace)} {pos : α → Nat × TypeId} {cs : List Value}
    (hrd : ∀ a x es, rd a = some x → g (pos a).2 = some es → LiesL w es ((cs.drop (pos a).1).take (P.cellsOf (pos a).2))) : ∀ {l : List α} {xs : List (DataW H × List MemPlace)} {i : Nat} {es : List SE}, l.mapM rd = some xs → flatP P g (l.map pos) i = some es → LiesL w es ((cs.drop i).take es.length)
  | [], xs, i, es, hm, h => by
    cases h
    exact ⟨by simp, [], rfl, fun j e hj => by cases hj⟩
  | a :: l, xs, i, es, hm, h => by
    rw [List.mapM_cons] at hm
    obtain ⟨x, hx, hm⟩ := Option.bind_eq_some_iff.1 hm
    obtain ⟨ys, hy, hm⟩ := Option.bind_eq_some_iff.1 hm
    cases hm
    simp only [List.map_cons, flatP] at h
    split at h
    · rename_i us ho hg
      split at h
      · rename_i r hl hr
        cases h
        have ho := Nat.eq_of_beq_eq_true ho
        have hl := Nat.eq_of_beq_eq_true hl
        have h1 := hrd a x us hx hg
        have h2 := flatP_lies hrd hy hr
        rw [ho, ← hl] at h1
        rw [← hl] at h2
        rw [List.length_append, List.take_add, List.drop_drop]
        exact h1.append h2
      · cases h
    · cases h
theorem flat_lies : ∀ (f fuel : Nat) (t : TypeId) (cs : List Value) (x : DataW H × List MemPlace) (es : List SE), DataW.trod enc P w 0 spare held fuel t cs = some x → flatE P f t = some es → LiesL w es cs
  | 0, _, _, _, _, _, _, h => by cases h
  | _, 0, _, _, _, _, h, _ => by simp [DataW.trod] at h
  | f + 1, fuel + 1, t, cs, x, es, h, hl => by
    unfold flatE at hl
    split at hl
    · rename_i fs ht
      split at hl
      · rename_i us hp
        split at hl
        · rename_i hle
          cases hl
          have hle := Nat.eq_of_beq_eq_true hle
          simp only [DataW.trod, ht] at h
          split at h
          · rename_i hlen
            obtain ⟨xs, hm, hx⟩ := Option.map_eq_some_iff.1 h
            have := flatP_lies (P := P) (pos := fun x : Field => (x.offset, x.type)) (cs := cs) (fun a x es h1 h2 => flat_lies f fuel _ _ x es h1 h2) hm hp
            rw [List.drop_zero, List.take_of_length_le (by omega)] at this
            exact this
          · cases h
        · cases hl
      · cases hl
    · rename_i n e ht
      split at hl
      · rename_i us hp
        split at hl
        · rename_i hle
          cases hl
          have hle := Nat.eq_of_beq_eq_true hle
          simp only [DataW.trod, ht] at h
          split at h
          · rename_i hlen
            obtain ⟨xs, hm, hx⟩ := Option.map_eq_some_iff.1 h
            have := flatP_lies (P := P) (pos := fun i : Nat => (i * P.cellsOf e, e)) (cs := cs) (fun a x es h1 h2 => flat_lies f fuel _ _ x es h1 h2) hm hp
            rw [List.drop_zero, List.take_of_length_le (by omega)] at this
            exact this
          · cases h
        · cases hl
      · cases hl
    · split at hl
      · rename_i e he
        cases hl
        obtain ⟨v, rfl⟩ : ∃ v, cs = [v] := by
          have he' := he
          unfold entOf at he'
          split at he'
          · rename_i k hu
            unfold DataW.trod at h
            rw [hu] at h
            match cs, h with
            | [v], _ => exact ⟨v, rfl⟩
            | [], h => simp at h
            | _ :: _ :: _, h => simp at h
          · rename_i hu
            unfold DataW.trod at h
            rw [hu] at h
            match cs, h with
            | [v], _ => exact ⟨v, rfl⟩
            | [], h => simp at h
            | _ :: _ :: _, h => simp at h
          · rename_i e' hu
            unfold DataW.trod at h
            rw [hu] at h
            match cs, h with
            | [v], _ => exact ⟨v, rfl⟩
            | [], h => simp at h
            | _ :: _ :: _, h => simp at h
          · cases he'
        obtain ⟨es0, q⟩ := ent_lies he h
        exact ⟨rfl, [es0], rfl, fun j e' hj => by
          cases j with
          | zero => simp at hj; subst hj; exact ⟨v, rfl, q⟩
          | succ j => cases hj⟩
      · cases hl
theorem row_lies {r : Reach} {base : Nat} {t : TypeId} {k : IntKind} {n : Nat} {v : Value} (hu : (∃ fs, P.underlying t = some (.struct fs)) ∨ ∃ m e, P.underlying t = some (.array m e)) (hs : rowSh P t = some (.l k n)) (hv : Value.okWide P w r base t v) : ∃ es, ArgLies w (.l k n) es v := by
  have h : shOf P t = some (.l k n) := by
    unfold shOf
    rcases hu with ⟨fs, hu⟩ | ⟨m, e, hu⟩ <;> rw [hu] <;> exact hs
  obtain ⟨es, h1, h2⟩ := shOf_R h hv
  obtain ⟨vs, rfl, h3⟩ := h2
  refine ⟨es, h1.1, ?_, h1.2⟩
  have : vs = es.map (Value.int k) := by
    clear h1 h hs hv
    induction es generalizing vs with
    | nil => cases vs with | nil => rfl | cons _ _ => exact h3.elim
    | cons e es ih =>
      cases vs with
      | nil => exact h3.elim
      | cons v vs =>
        obtain ⟨⟨_, hv⟩, h3⟩ := h3
        rw [List.map_cons, ← ih vs h3, hv]
        rfl
  rw [this]
theorem shE_lies {r : Reach} {base : Nat} {t : TypeId} {sh : SH} {v : Value} {d : DataW H} {ps : List MemPlace} (hs : shEOf P t = some sh) (hv : Value.okWide P w r base t v) (ht : DataW.Trod enc P w 0 spare held t v d ps) :
    ∃ (flat : List Value) (ess : List (List Int)), flat.length = sh.ents.length ∧ (match sh with | .one _ => flat = [v] | .grp _ => v = .agg flat.toArray) ∧ ess.length = sh.ents.length ∧ ∀ (j : Nat) (e : SE), sh.ents[j]? = some e → ∃ x, flat[j]? = some x ∧ ArgLies w e (ess.getD j []) x := by
  have single : ∀ {e : SE}, (∃ es, ArgLies w e es v) → ∃ (flat : List Value) (ess : List (List Int)), flat.length = (SH.one e).ents.length ∧ flat = [v] ∧ ess.length = (SH.one e).ents.length ∧ ∀ (j : Nat) (e' : SE), (SH.one e).ents[j]? = some e' → ∃ x, flat[j]? = some x ∧ ArgLies w e' (ess.getD j []) x := fun {e} ⟨es, h⟩ =>
    ⟨[v], [es], rfl, rfl, rfl, fun j e' hj => by
      cases j with
      | zero => simp [SH.ents] at hj; subst hj; exact ⟨v, rfl, h⟩
      | succ j => cases hj⟩
  unfold shEOf at hs
  split at hs
  · rename_i fs hu
    split at hs
    · rename_i k n hr
      cases hs
      exact single (row_lies (.inl ⟨fs, hu⟩) hr hv)
    · split at hs
      · rename_i es hes hcl
        cases hs
        have hcl := Nat.eq_of_beq_eq_true hcl
        unfold Value.okWide at hv
        rw [hu] at hv
        obtain ⟨cs, rfl, hsz, _⟩ := hv
        obtain ⟨fuel, ht⟩ := ht
        cases fuel with
        | zero => cases ht
        | succ m =>
          have e : (Value.agg cs).cells.toList = cs.toList := rfl
          rw [e] at ht
          unfold DataW.trod at ht
          rw [hu] at ht
          have ht : (if cs.toList.length = P.cellsOf t then (fs.toList.mapM fun f => DataW.trod enc P w 0 spare held m f.type ((cs.toList.drop f.offset).take (P.cellsOf f.type))).map fun xs => ((.agg (xs.map (·.1)) : DataW H), xs.flatMap (·.2)) else none) = some (d, ps) := by
            cases hq : cs.toList with
            | nil => rw [hq] at ht; exact ht
            | cons a l =>
              rw [hq] at ht
              cases l <;> cases a <;> exact ht
          split at ht
          · rename_i hlen
            obtain ⟨xs, hxs, _⟩ := Option.map_eq_some_iff.1 ht
            obtain ⟨q1, ess, q2, q3⟩ := fields_lies (i := 0) hes (by rw [hlen]; omega) hxs
            refine ⟨cs.toList, ess, ?_, by simp, q2, fun j e hj => ?_⟩
            · show cs.toList.length = es.length
              rw [hlen, q1]; exact hcl.symm
            · obtain ⟨v, r1, r2⟩ := q3 j e hj
              exact ⟨v, by rw [Nat.zero_add] at r1; exact r1, r2⟩
          · cases ht
      · split at hs
        · rename_i es hes
          cases hs
          unfold Value.okWide at hv
          rw [hu] at hv
          obtain ⟨cs, rfl, hsz, _⟩ := hv
          obtain ⟨fuel, ht⟩ := ht
          have e : (Value.agg cs).cells.toList = cs.toList := rfl
          rw [e] at ht
          obtain ⟨q1, ess, q2, q3⟩ := flat_lies 9 fuel t _ _ es ht hes
          exact ⟨cs.toList, ess, q1.symm, by simp, q2, q3⟩
        · cases hs
  · rename_i m e hu
    split at hs
    · rename_i k n hr
      cases hs
      exact single (row_lies (.inr ⟨m, e, hu⟩) hr hv)
    · cases hs
  · split at hs
    · rename_i e he
      cases hs
      obtain ⟨fuel, ht⟩ := ht
      have hna : ∀ cs, v ≠ .agg cs := fun cs e => by
        subst e
        unfold Value.okWide at hv
        unfold entOf at he
        split at he
        · rename_i k hu; rw [hu] at hv; unfold Cell.okWide at hv; rw [hu] at hv; simp [Cell.ok, hu] at hv
        · rename_i hu; rw [hu] at hv; unfold Cell.okWide at hv; rw [hu] at hv; simp [Cell.ok, hu] at hv
        · rename_i e' hu; rw [hu] at hv; unfold Cell.okWide at hv; rw [hu] at hv; simp [Cell.ok, hu] at hv
        · cases he
      have hcv : v.cells.toList = [v] := by
        cases v with
        | agg cs => exact absurd rfl (hna cs)
        | _ => rfl
      rw [hcv] at ht
      exact single (ent_lies he ht)
    · cases hs
theorem shsE_lies {r : Reach} {base : Nat} : ∀ {ts : List TypeId} {shs : List SH} {vs : List Value} {ds : List (DataW H)} {ps : List MemPlace}, shsE P ts = some shs → DataW.TrodAll enc P w 0 spare held ts vs ds ps →
    (∀ (j : Nat) (t : TypeId) (v : Value), ts[j]? = some t → vs[j]? = some v → Value.okWide P w r base t v) →
    ∃ (flv : List Value) (ess : List (List Int)), OpnV shs vs flv ∧ ess.length = (entsQ shs).length ∧ flv.length = (entsQ shs).length ∧ ∀ (i : Nat) (sh : SE), (entsQ shs)[i]? = some sh → ∃ v, flv[i]? = some v ∧ ArgLies w sh (ess.getD i []) v
  | [], shs, [], ds, ps, h, _, _ => by cases h; exact ⟨[], [], rfl, rfl, rfl, fun i sh hi => by cases hi⟩
  | [], _, _ :: _, ds, _, _, h, _ => by cases ds <;> exact False.elim h
  | _ :: _, _, [], ds, _, _, h, _ => by cases ds <;> exact False.elim h
  | _ :: _, _, _ :: _, [], _, _, h, _ => False.elim h
  | t :: ts, shs, v :: vs, d :: ds, ps, h, ht, hv => by
    simp only [shsE] at h
    split at h
    · rename_i s l h1 h2
      cases h
      obtain ⟨p, q, ht1, ht2, _⟩ := ht
      obtain ⟨flat, ess, a1, a2, a3, a4⟩ := shE_lies h1 (hv 0 t v rfl rfl) ht1
      obtain ⟨flv, ess', b1, b2, b3, b4⟩ := shsE_lies h2 ht2 fun j t v hj hv' => hv (j + 1) t v (by simpa using hj) (by simpa using hv')
      have hent : entsQ (s :: l) = s.ents ++ entsQ l := by simp [entsQ]
      refine ⟨flat ++ flv, ess ++ ess', ?_, by rw [hent]; simp [a3, b2], by rw [hent]; simp [a1, b3], fun i sh hi => ?_⟩
      · cases s with
        | one e => obtain rfl : flat = [v] := a2; exact ⟨flv, rfl, b1⟩
        | grp es => exact ⟨flat, flv, rfl, a1, a2, b1⟩
      · rw [hent] at hi
        by_cases hlt : i < s.ents.length
        · rw [List.getElem?_append_left hlt] at hi
          obtain ⟨x, q1, q2⟩ := a4 i sh hi
          refine ⟨x, by rw [List.getElem?_append_left (by omega)]; exact q1, ?_⟩
          rw [List.getD_eq_getElem?_getD, List.getElem?_append_left (by omega), ← List.getD_eq_getElem?_getD]
          exact q2
        · rw [List.getElem?_append_right (by omega)] at hi
          obtain ⟨x, q1, q2⟩ := b4 _ sh hi
          refine ⟨x, by rw [List.getElem?_append_right (by omega), a1]; exact q1, ?_⟩
          rw [List.getD_eq_getElem?_getD, List.getElem?_append_right (by omega), ← List.getD_eq_getElem?_getD, a3]
          exact q2
    · cases h
theorem yes_holds {v : Value} {w' : World} {lo : Nat} (h : (RS.p (.c (.b true))).Holds w' lo v) : v = .bool true := by
  obtain ⟨flat, bs, h1, h2, _⟩ := h
  obtain rfl : flat = [v] := h1
  obtain ⟨x, y, _, h3, _⟩ := h2
  exact h3.1
theorem yes_of {m : Mem} {v : AV} (h : v = .one (.sb true) ∨ v = .one (.lb true)) : (RS.p (.c (.b true))).sat m v := by
  rcases h with rfl | rfl
  · exact ⟨[.sb true], [], ⟨_, rfl, rfl⟩, ⟨[], [], rfl, ⟨rfl, rfl⟩, rfl⟩, List.nodup_nil⟩
  · exact ⟨[.lb true], [], ⟨_, rfl, rfl⟩, ⟨[], [], rfl, ⟨rfl, rfl⟩, rfl⟩, List.nodup_nil⟩
theorem law_s {C : Cfg} (hC : COk C) {G : List (Nat × List SV)} (hG : C.gd = G) (hgl : C.gl = glFrom 0 G) {g : Nat} {fn : Func} (hfn : FnOk C.P g fn) {shs : List SH} (hsh : shsE C.P fn.params.toList = some shs) (n : Nat)
    (hrun : ∀ Ms : Nat → List Int, okE Ms 0 (entsQ shs) → ∃ o, callA C false n fn (groupQ shs (argsE G.length Ms 0 (entsQ shs))) (memX G (blksE G.length Ms 0 (entsQ shs))) = o ∧ o.sat fun v _ => v = .one (.sb true) ∨ v = .one (.lb true))
    {W : World} {base : Nat} {args : Array Value} {ds : List (DataW H)} {ps : List MemPlace} (hT : DataW.TrodAll enc C.P W 0 (fun _ => true) true fn.params.toList args.toList ds ps)
    (hval : ∀ (j : Nat) t v, fn.params[j]? = some t → args[j]? = some v → Value.okWide C.P W .any base t v) (hgd : GD G W.heap.size W) :
    CallsL C.J g args W fun e w' => e = .returned (.bool true) ∧ Below W.heap.size W w' := by
  subst hG
  obtain ⟨flv, ess, h1, h2, h3, h4⟩ := shsE_lies hsh hT fun j t v ht hv => hval j t v (by simpa using ht) (by simpa using hv)
  have mono : ∀ {K K' : AV → Mem → Prop} (o : Out), (∀ v m, K v m → K' v m) → o.sat K → o.sat K' := by
    intro K K' o hk
    induction o with
    | bad _ => exact id
    | need p o ih => exact fun h => ⟨h.1, ih h.2⟩
    | br c t f iht ihf => exact fun h => ⟨fun e => iht (h.1 e), fun e => ihf (h.2 e)⟩
    | both a b iha ihb => exact fun h => ⟨iha h.1, ihb h.2⟩
    | done v m => exact hk v m
  have := fok_core hC hgl hfn (shs := shs) (conds := fun _ => []) (T := fun _ => .one (.p (.c (.b true)))) n (fun Ms hok _ => by
    obtain ⟨o, ho, hs⟩ := hrun Ms hok
    exact ⟨o, ho, mono o (fun v m h => yes_of h) hs⟩) hgd h1 h2 h3 h4 trivial
  refine this.mono fun e w' ⟨v, he, hb, hv⟩ => ⟨?_, hb⟩
  rw [he, yes_holds hv]
end
end Go.Ax

namespace Go.Ax
open Go
def bv (x : Int) : BitVec 64 := BitVec.ofInt 64 x
def nb (x : BitVec 64) : Int := (x.toNat : Int)
theorem bv_nb (x : BitVec 64) : bv (nb x) = x := by unfold bv nb; simp
theorem u64_bounds {n : Int} (h : okI .u64 n) : 0 ≤ n ∧ n < 18446744073709551616 := by
  unfold okI at h; simp [IntKind.min, IntKind.max, IntKind.bits, IntKind.signed] at h; omega
theorem u64_ok {n : Int} (h1 : 0 ≤ n) (h2 : n < 18446744073709551616) : okI .u64 n := by
  unfold okI; simp [IntKind.min, IntKind.max, IntKind.bits, IntKind.signed]; omega
theorem nb_bv {n : Int} (h : okI .u64 n) : nb (bv n) = n := by
  obtain ⟨h1, h2⟩ := u64_bounds h
  unfold nb bv
  rw [BitVec.toNat_ofInt]
  have e : (n % ((2 ^ 64 : Nat) : Int)) = n := Int.emod_eq_of_lt h1 (by simpa using h2)
  rw [e]
  omega
theorem nb_ok (x : BitVec 64) : okI .u64 (nb x) := by
  have := x.isLt
  unfold nb
  exact u64_ok (by omega) (by omega)
theorem wrap_nat (x : BitVec 64) : IntKind.u64.wrap (x.toNat : Int) = nb x := wrap_ok (nb_ok x)
theorem xor_nb (a b : Int) : binI .xor .u64 a b = nb (bv a ^^^ bv b) := wrap_nat (bv a ^^^ bv b)
theorem and_nb (a b : Int) : binI .and .u64 a b = nb (bv a &&& bv b) := wrap_nat (bv a &&& bv b)
theorem or_nb (a b : Int) : binI .or .u64 a b = nb (bv a ||| bv b) := wrap_nat (bv a ||| bv b)
theorem andNot_nb (a b : Int) : binI .andNot .u64 a b = nb (bv a &&& ~~~ bv b) := wrap_nat (bv a &&& ~~~ bv b)
theorem wrap_bv (n : Int) : IntKind.u64.wrap n = nb (bv n) := by
  unfold nb bv
  rw [BitVec.toNat_ofInt]
  simp only [IntKind.wrap, IntKind.bits, IntKind.signed, Bool.false_and, Bool.false_eq_true, if_false]
  have e : (2 : Int) ^ 64 = ((2 ^ 64 : Nat) : Int) := by decide
  rw [e]
  have : 0 ≤ n % ((2 ^ 64 : Nat) : Int) := Int.emod_nonneg _ (by decide)
  omega
theorem not_nb (a : Int) : unI .xor .u64 a = nb (~~~ bv a) := by
  have h : bv (if IntKind.u64.signed then -1 else IntKind.u64.max) = BitVec.allOnes 64 := by decide
  have e : unI .xor .u64 a = binI .xor .u64 (if IntKind.u64.signed then -1 else IntKind.u64.max) a := rfl
  rw [e, xor_nb, h, BitVec.allOnes_xor]
theorem shl_nb (a : Int) {n : Nat} : binI .shl .u64 a (n : Int) = nb (bv a <<< n) := by
  show IntKind.u64.wrap (a * 2 ^ (min (n : Int).toNat IntKind.u64.bits)) = _
  rw [wrap_bv]
  congr 1
  simp only [Int.toNat_natCast, IntKind.bits]
  unfold bv
  rw [BitVec.ofInt_mul]
  have e : BitVec.ofInt 64 (2 ^ min n 64) = BitVec.ofNat 64 (2 ^ min n 64) := by
    have : ((2 : Int) ^ min n 64) = ((2 ^ min n 64 : Nat) : Int) := by simp
    rw [this, BitVec.ofInt_natCast]
  rw [e, BitVec.shiftLeft_eq_mul_twoPow]
  by_cases h : n < 64
  · rw [Nat.min_eq_left (by omega)]
    have e2 : BitVec.ofNat 64 (2 ^ n) = BitVec.twoPow 64 n := by
      apply BitVec.eq_of_toNat_eq
      simp [BitVec.toNat_twoPow]
    rw [e2]
  · rw [Nat.min_eq_right (by omega)]
    have e1 : BitVec.ofNat 64 (2 ^ 64) = 0#64 := by decide
    have e2 : BitVec.twoPow 64 n = 0#64 := by
      apply BitVec.eq_of_toNat_eq
      simp [BitVec.toNat_twoPow]
      exact Nat.mod_eq_zero_of_dvd (Nat.pow_dvd_pow 2 (by omega : 64 ≤ n))
    rw [e1, e2]
theorem shr_nb {a : Int} (ha : okI .u64 a) {n : Nat} : binI .shr .u64 a (n : Int) = nb (bv a >>> n) := by
  obtain ⟨h1, h2⟩ := u64_bounds ha
  show a.fdiv (2 ^ (min (n : Int).toNat IntKind.u64.bits)) = _
  simp only [Int.toNat_natCast, IntKind.bits]
  have hp : (0 : Int) < 2 ^ min n 64 := Int.pow_pos (by decide)
  rw [Int.fdiv_eq_ediv_of_nonneg _ (by omega)]
  unfold nb
  rw [BitVec.toNat_ushiftRight]
  have hb : ((bv a).toNat : Int) = a := nb_bv ha
  have hlt := (bv a).isLt
  rw [Nat.shiftRight_eq_div_pow]
  by_cases h : n < 64
  · rw [Nat.min_eq_left (by omega)]
    have e : (((bv a).toNat / 2 ^ n : Nat) : Int) = ((bv a).toNat : Int) / ((2 ^ n : Nat) : Int) := Int.natCast_ediv _ _
    rw [e, hb]
    simp
  · rw [Nat.min_eq_right (by omega)]
    have e1 : (bv a).toNat / 2 ^ n = 0 := Nat.div_eq_of_lt (Nat.lt_of_lt_of_le hlt (Nat.pow_le_pow_right (by decide) (by omega)))
    rw [e1]
    exact Int.ediv_eq_zero_of_lt h1 (by simpa using h2)
end Go.Ax

namespace Go.Ax
open Go
theorem tab_congr {n : Nat} {f g : Nat → Int} (h : ∀ i, i < n → f i = g i) : tab n f = tab n g := List.map_congr_left fun i hi => h i (List.mem_range.1 hi)
end Go.Ax

namespace Go.Ax
open Go Go.RowKit
def bufCells (b g n : Nat) : List SV := [.sq b g 0 n, .li .i64 0, .li .i8 0]
def blkOf : AV → Option Nat
  | .one (.sq b _ _ _) => some b
  | .one (.slq b _ _) => some b
  | .one (.slr b _ _ _) => some b
  | .one (.slice b _ _ _) => some b
  | _ => none
def aprt (x : AV) (a b : Nat) : Bool := match blkOf x with
  | some c => !(Nat.beq c a) && !(Nat.beq c b)
  | none => true
section
variable {C : Cfg} {B : Nat → Prop} {w0 w : World} {env : Nat → Nat} {mem : Mem} {P : Program}
theorem srcQ_blk {k0 k : IntKind} {x : AV} {ps : List Cnd} {M : List Int} (hm : MR C B w0 env mem w) (h : srcQ mem k0 x = some (ps, k, M)) (hM : M ≠ []) : ∃ b ab, blkOf x = some b ∧ mem.get b = some ab ∧ (ab.wr = true ∨ B (env b)) := by
  have ints : ∀ {ab : AB} {k : IntKind} {L : List Int}, ab.ints? = some (k, L) → ab.wr = true := fun {ab k L} hi => by cases ab <;> first | rfl | cases hi
  unfold srcQ at h
  split at h
  · split at h
    · rename_i k' L hg
      obtain ⟨ab, hab, hi⟩ := Option.bind_eq_some_iff.1 hg
      exact ⟨_, ab, rfl, hab, .inl (ints hi)⟩
    · cases h
  · split at h
    · rename_i k' L hg
      obtain ⟨ab, hab, hi⟩ := Option.bind_eq_some_iff.1 hg
      exact ⟨_, ab, rfl, hab, .inl (ints hi)⟩
    · cases h
  · split at h
    · rename_i k' L g' hg
      split at h
      · cases h
        refine ⟨_, _, rfl, hg, .inr ?_⟩
        rcases hm.blk _ _ hg with hL | ⟨_, _, _, _, _, _, hB⟩
        · subst hL
          exact absurd (by unfold partQ; split <;> simp) hM
        · exact hB
      · cases h
    · cases h
  · split at h
    · rename_i l hl
      split at h
      · rename_i es he
        split at h
        · obtain ⟨ab, hab, hi⟩ := Option.bind_eq_some_iff.1 hl
          refine ⟨_, ab, rfl, hab, ?_⟩
          have hb := hm.blk _ _ hab
          cases ab with
          | cells t l => exact .inl rfl
          | row t l => exact .inl rfl
          | fz t l => exact .inl rfl
          | ro l => obtain ⟨_, _, _, _, _, _, hB⟩ := hb; exact .inr hB
          | _ => cases hi
        · cases h
      · cases h
    · cases h
  · cases h; exact absurd rfl hM
  · cases h; exact absurd rfl hM
  · cases h
theorem blk_val {x : AV} {b b0 o0 n c m : Nat} (h : blkOf x = some b) (hx : x.R env m (.slice (some ⟨b0, o0, none⟩) n c)) (hn : n ≠ 0) : env b = b0 := by
  unfold blkOf at h
  split at h
  · cases h
    obtain ⟨_, o', _, _, _, hv⟩ := hx
    cases hv; rfl
  · cases h
    obtain ⟨_, p, c', _, _, hv, hp⟩ := hx
    cases hv
    rcases hp with hp | hp
    · exact absurd hp hn
    · cases hp; rfl
  · cases h
    obtain ⟨_, p, c', _, _, hv, hp⟩ := hx
    cases hv
    rcases hp with hp | hp
    · exact absurd hp hn
    · cases hp; rfl
  · cases h
    obtain ⟨_, hv⟩ := hx
    cases hv; rfl
  · cases h
def BufK (G T t : Nat) (x : AV) (n : Nat) (Q : List Int) (v : AV) (m : Mem) : Prop := v = x ∧ ∃ j gj N R, m.get G = some (.cells T (bufCells j gj N)) ∧ m.get j = some (.seq t .u8 R gj) ∧ N = n ∧ R.take N = Q
structure BufRun (G T t : Nat) (x : AV) (n : Nat) (Q : List Int) (o : Out) : Prop where
  out : o.sat (BufK G T t x n Q)
end
end Go.Ax

namespace Go.Ax
open Go Go.RowKit
theorem MR.refit {C C' : Cfg} {B : Nat → Prop} {w0 w w' : World} {env env' : Nat → Nat} {mem mem' : Mem} (h0 : MR C' B w0 env mem w) (h1 : MR C B w0 env' mem' w') (hx : Ext env mem.n env' mem'.n) : MR C' B w0 env' mem' w' :=
  ⟨h1.below, h1.base, h1.lt, h1.blk, h1.sep, fun p hp => by
    obtain ⟨a, b⟩ := h0.gl p hp
    exact ⟨(hx.2 _ b).trans a, Nat.lt_of_lt_of_le b hx.1⟩, fun p hp => by
    obtain ⟨a, vs, rest, t, fr, q1, q2⟩ := h0.gd p hp
    exact ⟨a, vs, rest, t, fr, by rw [h1.below.block _ a, ← h0.below.block _ a]; exact q1, q2⟩⟩
theorem MR.less {C C' : Cfg} {B : Nat → Prop} {w0 w : World} {env : Nat → Nat} {mem : Mem} (hgl : C.gl = []) (hgd : ∀ p ∈ C.gd, p ∈ C'.gd) (h : MR C' B w0 env mem w) : MR C B w0 env mem w :=
  ⟨h.below, h.base, h.lt, h.blk, h.sep, (fun p hp => by rw [hgl] at hp; cases hp), fun p hp => h.gd p (hgd p hp)⟩
theorem QOk.widen {C C' : Cfg} {g : Nat} {F : List AV → Mem → Option (List Cnd × AV × Mem)} (h : QOk C g F) (hgl : C.gl = []) (hP : C'.sig = C.sig) (hgd : ∀ p ∈ C.gd, p ∈ C'.gd) : QOk C' g F := by
  obtain ⟨h1, h2⟩ := h
  refine ⟨by rw [sig_P hP]; exact h1, fun args mem r mem' conds hF hp B w0 w env vals hm ha => sig_calls hP ((h2 args mem r mem' conds hF hp B w0 w env vals (hm.less hgl hgd) ha).mono ?_)⟩
  rintro e w' ⟨v, env', he, q1, q2, q3⟩
  exact ⟨v, env', he, hm.refit q1 q2, q2, q3⟩
theorem QBk.widen {C C' : Cfg} {g : Nat} {F : List AV → Mem → Option ((AV → Mem → Out) → Out)} (h : QBk C g F) (hgl : C.gl = []) (hP : C'.sig = C.sig) (hgd : ∀ p ∈ C.gd, p ∈ C'.gd) : QBk C' g F := by
  obtain ⟨h1, h2⟩ := h
  refine ⟨by rw [sig_P hP]; exact h1, fun K k args mem o hF hs B w0 w env vals hm ha => sig_calls hP ((h2 K k args mem o hF hs B w0 w env vals (hm.less hgl hgd) ha).mono ?_)⟩
  rintro e w' ⟨r, mem', v, env', he, hk, q1, q2, q3⟩
  exact ⟨r, mem', v, env', he, hk, hm.refit q1 q2, q2, q3⟩
theorem sig_def {C C' : Cfg} (h : C'.sig = C.sig) {g : Nat} {a : Array Value} {pv : Option Value} {w : World} {R : World → Prop} (hc : DefJ C.J g a pv w R) : DefJ C'.J g a pv w R := by
  have key : ∀ s s' : (P : Program) × Judg P, s' = s → DefJ s.2 g a pv w R → DefJ s'.2 g a pv w R := by rintro s s' rfl h; exact h
  exact key C.sig C'.sig h hc
theorem DOk.widen {C C' : Cfg} {g : Nat} {F : Option Value → List AV → Mem → Option (List Cnd × Mem)} (h : DOk C g F) (hgl : C.gl = []) (hP : C'.sig = C.sig) (hgd : ∀ p ∈ C.gd, p ∈ C'.gd) : DOk C' g F := by
  obtain ⟨h1, h2⟩ := h
  refine ⟨by rw [sig_P hP]; exact h1, fun pv args mem mem' conds hF hp B w0 w env vals hm ha => sig_def hP ((h2 pv args mem mem' conds hF hp B w0 w env vals (hm.less hgl hgd) ha).mono ?_)⟩
  rintro w' ⟨env', q1, q2⟩
  exact ⟨env', hm.refit q1 q2, q2⟩
section
variable {P : Program} {J : Judg P}
end
end Go.Ax

namespace Go.Ax
open Go Go.RowKit
section
variable {C : Cfg} {B : Nat → Prop} {w0 w : World} {env : Nat → Nat} {tm : TM} {mem : Mem} {a : Act}
theorem Rel.raise (hr : Rel C B w0 env tm mem a w) (nf : Nat) : Rel C B w0 env tm ⟨mem.n + nf, mem.t⟩ a w :=
  ⟨hr.size, fun t => AV.R_ext ⟨Nat.le_add_right _ _, fun _ _ => rfl⟩ (hr.tmp t), hr.defers.ext ⟨Nat.le_add_right _ _, fun _ _ => rfl⟩, hr.mem.widen (fun _ _ => rfl) (Nat.le_add_right _ _)⟩
theorem RegQ.cast {C C' : Cfg} {ops : Array Oper} {F : TM → Mem → Option ((AE → TM → Mem → Out) → Out)} (hP : C'.sig = C.sig) (hgl : C'.gl = C.gl) (hgd : C'.gd = C.gd) (h : RegQ C ops F) : RegQ C' ops F := by
  intro K k tm mem o hF hs B w0 env a w Q hr hk id
  exact sig_wp hP (h K k tm mem o hF hs B w0 env a w Q (hr.cast hgl.symm hgd.symm) (fun e tm' mem' env' a' w' q1 q2 q3 => hk e tm' mem' env' a' w' q1 (q2.cast hgl hgd) q3) id)
end
end Go.Ax
