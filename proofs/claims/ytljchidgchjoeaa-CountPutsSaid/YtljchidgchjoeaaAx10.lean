/- The abstract executor is sound: whole code, and calls. -/
import Derived.Test.YtljchidgchjoeaaAx9c
namespace Go.Ax
open Go Go.RowKit

def TaskWp {P : Program} (J : Judg P) : Task → (Exit → Act → World → Prop) → Act → World → Prop
  | .run c, Q, a, w => wpJ J c Q a w
  | .again c, Q, a, w => InLoopJ J c Q a w
  | .within rest body, Q, a, w => InScopeJ J body rest Q a w

section
variable {C : Cfg} {B : Nat → Prop} {w0 w : World} {env : Nat → Nat} {mem : Mem} {K : AV → Mem → Prop}

theorem splits_sat {k : IntKind} {e : Int} {t : Nat} {tm : TM} {go : TM → Out} : ∀ {vs : List Int}, (splits k e t tm go vs).sat K → ∃ v, e = v ∧ (go (tm.set t (.one (.li k v)))).sat K
  | [], h => h.elim
  | v :: vs, h => by
    by_cases he : e = v
    · exact ⟨v, he, h.1 (decide_eq_true he)⟩
    · exact splits_sat (h.2 (decide_eq_false he))

theorem splitAt_sat {id : Nat} {tm : TM} {a : Act} {go : TM → Out} (hr : Rel C B w0 env tm mem a w) (h : (splitAt C id tm go).sat K) : ∃ tm', Rel C B w0 env tm' mem a w ∧ (go tm').sat K := by
  unfold splitAt at h
  split at h
  · exact ⟨tm, hr, h⟩
  · rename_i t vs _
    split at h
    · rename_i k e ht
      obtain ⟨v, rfl, h'⟩ := splits_sat h
      refine ⟨_, ⟨hr.size.trans (set_sz _ _ _).symm, fun u => ?_, by rw [set_df]; exact hr.defers, hr.mem⟩, h'⟩
      unfold TM.set
      split
      · simp only [TM.get]
        by_cases hu : t = u
        · subst hu
          cases hq : (tm.t.set t (.one (.li k e))).get t with
          | none => trivial
          | some y =>
            rw [Tr.get_set_eq _ _ _ _ hq]
            have := hr.tmp t
            rw [ht] at this
            exact this
        · rw [Tr.get_set_ne _ _ _ _ hu]; exact hr.tmp u
      · exact hr.tmp u
    · exact ⟨tm, hr, h⟩

theorem loadAt_pointer {P : Program} {t : TypeId} {vx z : Value} {w w' : World} (h : (Instr.loadAt t vx).run P w = .ok z w') : ∃ a, vx = .pointer (some a) ∧ (loadVar t a).run P w = .ok z w' := by
  cases vx with
  | pointer p =>
    cases p with
    | some a => exact ⟨a, rfl, by simpa [Instr.loadAt, Instr.sureAddr] using h⟩
    | none => simp [Instr.loadAt, Instr.sureAddr] at h
  | _ => simp [Instr.loadAt, Instr.sureAddr] at h

def resV (tmps : Array Value) (r : ResultVar) : Sem Value :=
  match r with
  | .tmp t => pure (tmps.getD t undef)
  | .cell a t => do loadVar t (← asAddr (tmps.getD a undef))

theorem results_eq (fn : Func) (tmps : Array Value) : results fn tmps = (do let vs ← fn.results.mapM (resV tmps); pure (if h : vs.size = 1 then vs[0] else .tuple vs)) := by
  have : (fun r : ResultVar => (match r with | .tmp t => pure (tmps.getD t undef) | .cell a t => do loadVar t (← asAddr (tmps.getD a undef)) : Sem Value)) = resV tmps := by
    funext r
    cases r <;> rfl
  unfold results
  rw [← this]
  rfl

theorem resA_sound {tm : TM} {a : Act} {r : ResultVar} {v : AV} (hr : Rel C B w0 env tm mem a w) (h : resA C.P mem tm r = some v) :
    RunV C.P w env mem.n (resV a.tmps r) v := by
  cases r with
  | tmp t => cases h; exact ⟨_, rfl, hr.tmp t⟩
  | cell p t =>
    simp only [resA] at h
    split at h
    · rename_i v' hl
      cases h
      obtain ⟨z, hz, hR⟩ := loadA_sound hr.mem hl trivial (hr.tmp p)
      obtain ⟨x, hx, hz'⟩ := loadAt_pointer hz
      exact ⟨z, by simp only [resV, hx, asAddr, Sem.run_bind, Sem.run_pure, Result.andThen_ok, hz'], hR⟩
    · cases h

theorem tv_R {m : Nat} {x : AV} {t : TV} {v : Value} (h : x.tv = some t) (hx : x.R env m v) : t.R env m v := by
  cases x with
  | one s => cases h; exact hx
  | agg l => cases h; exact hx
  | tup l => cases h

theorem resL_sound {tm : TM} {a : Act} (hr : Rel C B w0 env tm mem a w) : ∀ {rs : List ResultVar} {l : List TV}, resL C.P mem tm rs = some l →
    ∃ vs : List Value, (rs.mapM (resV a.tmps)).run C.P w = .ok vs w ∧ All2 (TV.R env mem.n) l vs
  | [], l, h => by cases h; exact ⟨[], by simp, trivial⟩
  | r :: rs, l, h => by
    simp only [resL] at h
    split at h
    · rename_i v l' hv hl
      cases h
      obtain ⟨x, hx, ht⟩ := Option.bind_eq_some_iff.1 hv
      obtain ⟨z, hz, hR⟩ := resA_sound hr hx
      obtain ⟨vs, h1, h2⟩ := resL_sound hr hl
      refine ⟨z :: vs, ?_, tv_R ht hR, h2⟩
      rw [List.mapM_cons]
      simp only [Sem.run_bind, hz, Result.andThen_ok, h1, Sem.run_pure]
    · cases h

theorem resultsA_sound {fn : Func} {tm : TM} {a : Act} {v : AV} (hr : Rel C B w0 env tm mem a w) (h : resultsA C.P mem tm fn.results.toList = some v) : RunV C.P w env mem.n (results fn a.tmps) v := by
  have hmap : ∀ vs : List Value, (fn.results.toList.mapM (resV a.tmps)).run C.P w = .ok vs w →
      (results fn a.tmps).run C.P w = .ok (if h : vs.toArray.size = 1 then vs.toArray[0] else .tuple vs.toArray) w := fun vs hvs => by
    rw [results_eq, ← Array.toArray_toList (xs := fn.results), List.mapM_toArray, Sem.run_bind, Sem.run_map, hvs]
    rfl
  unfold resultsA at h
  split at h
  · rename_i r hrs
    obtain ⟨z, hz, hR⟩ := resA_sound hr h
    refine ⟨z, ?_, hR⟩
    have := hmap [z] (by
      rw [hrs, List.mapM_cons]
      simp [hz])
    simpa using this
  · rename_i rs hne
    split at h
    · rename_i l hl
      cases h
      obtain ⟨vs, h1, h2⟩ := resL_sound hr hl
      have hlen : ∀ {rs : List ResultVar} {l : List TV}, resL C.P mem tm rs = some l → l.length = rs.length := by
        intro rs
        induction rs with
        | nil => intro l h; cases h; rfl
        | cons r rs ih =>
          intro l h
          simp only [resL] at h
          split at h
          · rename_i _ l' _ hl'; cases h; simp [ih hl']
          · cases h
      have hsz : vs.toArray.size ≠ 1 := by
        have e1 := hlen hl
        have e2 := h2.length
        simp only [List.size_toArray]
        intro e
        have : fn.results.toList.length = 1 := by omega
        match hq : fn.results.toList, this with
        | [r], _ => exact hne r hq
      refine ⟨_, hmap vs h1, ?_⟩
      rw [dif_neg hsz]
      exact ⟨vs, rfl, h2⟩
    · cases h

theorem enter_R (hm : MR C B w0 env mem w) {args : List AV} {vals : List Value} {n : Nat} (ha : All2 (AV.R env mem.n) args vals) (hn : args.length ≤ n) :
    Rel C B w0 env (TM.enter n args) mem { tmps := vals.toArray ++ Array.replicate (n - vals.toArray.size) undef, defers := [] } w := by
  have hl := ha.length
  refine ⟨by simp [TM.enter]; omega, fun t => ?_, Dfs.nil, hm⟩
  have key : ∀ (l : List AV) (us : List Value) (i : Nat) (tr : Tr AV), All2 (AV.R env mem.n) l us →
      (∀ t x, tr.get t = some x → x.R env mem.n ((vals.toArray ++ Array.replicate (n - vals.toArray.size) undef).getD t undef)) →
      (∀ j v, us[j]? = some v → (vals.toArray ++ Array.replicate (n - vals.toArray.size) undef).getD (i + j) undef = v) →
      ∀ t x, (Tr.ofList tr i l).get t = some x → x.R env mem.n ((vals.toArray ++ Array.replicate (n - vals.toArray.size) undef).getD t undef) := by
    intro l
    induction l with
    | nil => intro us i tr _ h _ t x hx; exact h t x hx
    | cons y l ih =>
      intro us i tr hus h hv t x hx
      cases us with
      | nil => exact hus.elim
      | cons u us =>
        refine ih us (i + 1) (tr.set i y) hus.2 (fun t x hx => ?_) (fun j v hj => by have := hv (j + 1) v (by simpa using hj); simpa [Nat.add_assoc, Nat.add_comm 1 j] using this) t x hx
        by_cases hit : i = t
        · subst hit
          rw [Tr.get_set_eq _ _ _ _ hx]
          have := hv 0 u rfl
          simp only [Nat.add_zero] at this
          rw [this]
          exact hus.1
        · rw [Tr.get_set_ne _ _ _ _ hit] at hx
          exact h t x hx
  simp only [TM.get, TM.enter]
  cases hg : (Tr.ofList (Tr.mk 10) 0 args).get t with
  | none => trivial
  | some x =>
    refine key args vals 0 (Tr.mk 10) ha (fun t x hx => by rw [Tr.get_mk] at hx; cases hx) (fun j v hj => ?_) t x hg
    have hlt : j < vals.length := (List.getElem?_eq_some_iff.1 hj).1
    have hj' : vals[j] = v := by rw [List.getElem?_eq_getElem hlt] at hj; exact Option.some.inj hj
    simp [Array.getElem?_append, hlt, hj']

end
end Go.Ax
