/- Judgements on one goroutine's run: operations. -/
import Derived.Test.YtljchidgchjoeaaAx0
namespace Go.Ax
open Go Go.RowKit

section
variable {P : Program} {l : Nat}

def EvCalm (e : Event) : Prop := e.loc ≠ .mark .disable ∧ e.loc ≠ .mark .enable

theorem push_all {Q : Event → Prop} {es : Array Event} {x : Event} (h : ∀ e ∈ es, Q e) (hx : Q x) : ∀ e ∈ es.push x, Q e := fun e he => by
  rcases Array.mem_push.1 he with he | rfl
  · exact h e he
  · exact hx
theorem app_all {Q : Event → Prop} {es fs : Array Event} (h : ∀ e ∈ es, Q e) (hx : ∀ e ∈ fs, Q e) : ∀ e ∈ es ++ fs, Q e := fun e he => by
  rcases Array.mem_append.1 he with he | he
  · exact h e he
  · exact hx e he

/-- A store of one cell's value, written out. -/
theorem store_eq {α : Type} {P : Program} {m : Mode} {a : Addr} {v : Value} {k : Sem α} (hv : ¬((∃ c, v = .agg c) ∨ ∃ c, v = .tuple c)) :
    (∀ w, (Sem.store m a v k).run P w = match w.cell? a with
          | some _ => if w.frozen? a then .halt (.unsupported (.unsafePointer "a write to bytes that a string shares")) w else k.run P (w.setCell a v)
          | none => match w.farStore P a v (m == .atomic) with
            | .ok (w, _) => k.run P w
            | .error h => .halt h w) ∧
    ∀ w es, (Sem.store m a v k).runT P w es = match w.cell? a with
          | some _ =>
            if w.frozen? a then (.halt (.unsupported (.unsafePointer "a write to bytes that a string shares")) w, es)
            else k.runT P (w.setCell a v) (es.push ⟨.cell a, true, m == .atomic⟩)
          | none => match w.farStore P a v (m == .atomic) with
            | .ok (w, touched) => k.runT P w (es ++ touched.toArray.map (⟨.cell ·, true, m == .atomic⟩))
            | .error h => (.halt h w, es) := by
  refine ⟨fun w => ?_, fun w es => ?_⟩ <;> cases v <;> first | rfl | exact absurd (.inl ⟨_, rfl⟩) hv | exact absurd (.inr ⟨_, rfl⟩) hv

theorem ns_calm {α : Type} (s : Sem α) : NS l P s → ∀ (w : World) (es : Array Event), (∀ e ∈ es, EvCalm e) → ∀ e ∈ (s.runT P w es).2, EvCalm e := by
  have hc : ∀ (a : Addr) (x y : Bool), EvCalm ⟨.cell a, x, y⟩ := fun a x y => ⟨by simp, by simp⟩
  induction s with
  | pure a => intro _ w es h; exact h
  | halt a => intro _ w es h; exact h
  | load m a k ih =>
    intro hn w es h
    unfold Sem.runT
    split
    · exact ih _ (hn _) _ _ (push_all h (hc _ _ _))
    · split
      · refine ih _ (hn _) _ _ (app_all h fun e he => ?_)
        simp only [List.map_toArray, List.mem_toArray, List.mem_map] at he
        obtain ⟨x, _, rfl⟩ := he
        exact hc _ _ _
      · exact h
  | store m a v k ih =>
    intro hn w es h
    by_cases hagg : (∃ c, v = .agg c) ∨ ∃ c, v = .tuple c
    · rcases hagg with ⟨c, rfl⟩ | ⟨c, rfl⟩ <;> exact h
    · rw [(store_eq hagg).2]
      split
      · split
        · exact h
        · exact ih hn _ _ (push_all h (hc _ _ _))
      · split
        · refine ih hn _ _ (app_all h fun e he => ?_)
          simp only [List.map_toArray, List.mem_toArray, List.mem_map] at he
          obtain ⟨x, _, rfl⟩ := he
          exact hc _ _ _
        · exact h
  | new o k ih => intro hn w es h; exact ih _ (hn.2 _) _ _ h
  | shape r k ih => intro hn w es h; exact ih _ (hn.2 _) _ _ h
  | freeze a n k ih => intro hn w es h; exact ih hn.2 _ _ h
  | frozen a k ih => intro hn w es h; exact ih _ (hn.2 _) _ _ h
  | getObj r k ih =>
    intro hn w es h
    unfold Sem.runT
    split
    · exact h
    · exact ih _ (hn _) _ _ (push_all h ⟨by simp, by simp⟩)
    · exact h
  | setObj r o k ih =>
    intro hn w es h
    unfold Sem.runT
    split
    · exact h
    · exact ih hn.2 _ _ (push_all h ⟨by simp, by simp⟩)
    · exact h
  | choose q k ih =>
    intro hn w es h
    unfold Sem.runT
    split
    · exact ih _ (hn _) _ _ h
    · exact ih _ (hn _) _ _ h
  | sys c k ih => intro hn; exact hn.elim
  | program k ih => intro hn w es h; exact ih _ hn _ _ h
  | mark m k ih => intro hn w es h; exact ih hn.2 _ _ (push_all h ⟨by simpa using hn.1.1, by simpa using hn.1.2⟩)

/-! ## What an operation comes to -/

def Res1 : Except Halt Next → Prop
  | .ok (.value _) => True
  | .ok .skip => True
  | .ok (.enter _ _) => True
  | .ok (.defer _) => True
  | .ok (.round _ _ _ _ _) => True
  | .error (.panic _) => True
  | _ => False

def after (P : Program) (fr : Frame) (cs : List Frame) : Except Halt Next → Frame × List Frame
  | .ok (.value v) => (fr.finish v, cs)
  | .ok .skip => (fr.finish undef, cs)
  | .ok (.enter f args) => (Frame.enter P f args .normal, fr :: cs)
  | .ok (.defer d) => ({ fr with defers := d :: fr.defers }.finish undef, cs)
  | .ok (.round l f tmps as bd) => (Frame.round l f tmps as bd .normal, fr :: cs)
  | .error (.panic v) => (fr.raise [{ v, recovered := false }], cs)
  | _ => (fr, cs)

theorem seen_sub {fn : FuncId} {es : Array Event} : ∀ e ∈ seen P fn es, e ∈ es := by
  have key : ∀ (f : Bool × Array Event → Event → Bool × Array Event) (l : List Event) (x : Bool × Array Event) (M : Event → Prop), (∀ x e, M e → (∀ y ∈ x.2, M y) → ∀ y ∈ (f x e).2, M y) → (∀ y ∈ x.2, M y) → (∀ y ∈ l, M y) → ∀ y ∈ (l.foldl f x).2, M y := by
    intro f l
    induction l with
    | nil => intro x M _ hx _; exact hx
    | cons e l ih =>
      intro x M hf hx hl
      rw [List.foldl_cons]
      exact ih _ M hf (hf x e (hl e (by simp)) hx) fun y hy => hl y (by simp [hy])
  dsimp only [seen]
  rw [← Array.foldl_toList]
  refine key _ es.toList _ (fun e => e ∈ es) (fun x e he hx y hy => ?_) (by simp) (fun y hy => by simpa using hy)
  split at hy
  · exact hx y hy
  · split at hy
    · exact hx y hy
    · rcases Array.mem_push.1 hy with h | rfl
      · exact hx y h
      · exact he

theorem apply_eq {fr : Frame} {cs : List Frame} {s : Sem Next} {w : World} (hr : Res1 (rv (s.run P w))) (hk : ∀ d r sv k, fr.todo ≠ .call d true r sv :: k) :
    ∃ es, stepG.apply P true fr cs none s w = .go (gor (after P fr cs (rv (s.run P w))).1 (after P fr cs (rv (s.run P w))).2) (Result.wd (s.run P w)) es ∧ ∀ e ∈ es, e ∈ (s.runT P w #[]).2 := by
  have hsub : ∀ e ∈ seen P fr.fn (if fr.kind == .early then #[] else s.events P w #[]), e ∈ (s.runT P w #[]).2 := fun e he => by
    have := seen_sub e he
    split at this
    · simp at this
    · exact this
  generalize hq : s.run P w = r at hr
  have e0 : s.runT P w #[] = (r, s.events P w #[]) := by rw [Sem.runT_eq, hq]
  unfold stepG.apply
  simp only [e0, if_true]
  cases r with
  | ok n w' =>
    cases n with
    | enter f args =>
      rcases ht : fr.todo with _ | ⟨it, k⟩
      · exact ⟨_, by simp only [GStep.after, after, gor, Result.wd, rv]; rfl, by simpa using hsub⟩
      · rw [ht] at hk
        cases it with
        | call d wr r sv =>
          cases wr with
          | true => exact absurd rfl (hk _ _ _ _)
          | false => exact ⟨_, by simp only [GStep.after, after, gor, Result.wd, rv]; rfl, by simpa using hsub⟩
        | _ => exact ⟨_, by simp only [GStep.after, after, gor, Result.wd, rv]; rfl, by simpa using hsub⟩
    | _ => first | exact hr.elim | exact ⟨_, by simp only [GStep.after, after, gor, Result.wd, rv]; rfl, by simpa using hsub⟩
  | halt x w' =>
    cases x <;> first | exact hr.elim | exact ⟨_, by simp only [GStep.after, after, gor, Result.wd, rv]; rfl, by simpa using hsub⟩

section
variable {J : Judg P} {S : SetS} {w : World}

/-- A step that carries out an operation. -/
theorem Judg.opStep (hS : J.closed S) {fr : Frame} {cs : List Frame} {s : Sem Next} (hstep : ∀ w, stepG P J.main (gor fr cs) w = stepG.apply P true fr cs none s w)
    (hk : ∀ d r sv k, fr.todo ≠ .call d true r sv :: k) (hns : 1 ≤ J.lvl → NS J.lvl P s)
    (h : ∀ w1, J.rel w w1 → Res1 (rv (s.run P w1)) ∧ S (after P fr cs (rv (s.run P w1))).1 (after P fr cs (rv (s.run P w1))).2 (Result.wd (s.run P w1))) : S fr cs w :=
  J.sem S fr cs w Next s Res1 (after P fr cs) hS hns (fun _ h => h) (fun _ h => h) (fun w hw => by
    obtain ⟨es, he, hsub⟩ := apply_eq (P := P) (fr := fr) (cs := cs) hw hk
    exact ⟨es, (hstep w).trans he, hsub⟩) h

end
end
end Go.Ax
