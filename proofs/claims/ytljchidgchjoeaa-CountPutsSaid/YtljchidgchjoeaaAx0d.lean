/- Judgements on one goroutine's run: a function's end; rounds; ranges over functions. -/
import Derived.Test.YtljchidgchjoeaaAx0m
namespace Go.Ax
open Go Go.RowKit

section
variable {P : Program} {J : Judg P} {Q : Exit → Act → World → Prop}

theorem ns_results {l : Nat} (fn : Func) (tmps : Array Value) : NS l P (results fn tmps) := by
  unfold results
  refine NS.bind (ns_mapM fun r => ?_) fun _ => ns_pure _
  cases r with
  | tmp t => exact ns_pure _
  | cell a t => exact NS.bind (ns_asAddr _) fun _ => ns_loadVar _ _

/-- A step that carries out an expression that yields a value. -/
theorem Judg.okStep {S : SetS} {fr : Frame} {cs : List Frame} {w : World} {α : Type} (hS : J.closed S) (s : Sem α) (f : α → Frame × List Frame) (hns : 1 ≤ J.lvl → NS J.lvl P s)
    (hstep : ∀ w v w', s.run P w = .ok v w' → ∃ es, stepG P J.main (gor fr cs) w = .go (gor (f v).1 (f v).2) w' es ∧ ∀ e ∈ es, e ∈ (s.runT P w #[]).2)
    (h : ∀ w1, J.rel w w1 → ∃ v w', s.run P w1 = .ok v w' ∧ S (f v).1 (f v).2 w') : S fr cs w := by
  refine J.sem S fr cs w α s (fun r => ∃ v, r = .ok v) (fun r => match r with | .ok v => f v | .error _ => (fr, cs)) hS hns (fun m h => by obtain ⟨_, h⟩ := h; cases h) (fun m h => by obtain ⟨_, h⟩ := h; cases h) (fun w hw => ?_) (fun w1 h1 => ?_)
  · obtain ⟨v, hv⟩ := hw
    cases hr : s.run P w with
    | ok v' w' =>
      obtain ⟨es, h1, h2⟩ := hstep w v' w' hr
      exact ⟨es, h1, h2⟩
    | halt x w' => rw [hr] at hv; cases hv
  · obtain ⟨v, w', hv, hn⟩ := h w1 h1
    rw [hv]
    exact ⟨⟨v, rfl⟩, hn⟩

theorem runT_of {α : Type} {s : Sem α} {w w' : World} {v : α} (h : s.run P w = .ok v w') : s.runT P w #[] = (.ok v w', (s.runT P w #[]).2) := by rw [Sem.runT_eq, h]

theorem seen_runT {α : Type} {fn : FuncId} {s : Sem α} {w : World} : ∀ e ∈ seen P fn (s.runT P w #[]).2, e ∈ (s.runT P w #[]).2 := fun e he => seen_sub e he

/-! ## A function's end -/

/-- How a frame is left: by its returning, or by a panic with such a value. -/
def leftBy : Option Value → FrameMode
  | none => .returning
  | some v => .panicking [{ v, recovered := false }]

/-- A deferred call's contract: behind it the frame that deferred it returns. -/
def DefJ (J : Judg P) (g : FuncId) (args : Array Value) (pv : Option Value) (w : World) (R : World → Prop) : Prop :=
  ∀ (fr : Frame) (cs : List Frame) (S : SetS), J.closed S → fr.mode = leftBy pv → (∀ w', R w' → S { fr with mode := .returning } cs w') → S (Frame.enter P g args .deferred) (fr :: cs) w

/-- What is left to be done when a body has been left: the marks among the deferred calls, the deferred calls, the results. -/
def leavesJ (J : Judg P) (fn : Func) (tmps : Array Value) (R : Ending → World → Prop) : List Deferred → Option Value → World → Prop
  | [], none, w => ∀ w1, J.rel w w1 → ∃ v, (results fn tmps).run P w1 = .ok v w1 ∧ R (.returned v) w1
  | [], some v, w => R (.panicked [{ v, recovered := false }]) w
  | d :: ds, pv, w =>
    (∃ r, d = { target := .collected r, args := #[] } ∧ ∀ w1, J.rel w w1 → w1.heap[r]? = some (.deferred (some [])) ∧ leavesJ J fn tmps R ds pv (w1.putObj r (.deferred none))) ∨
    (∃ g gn caps vals, d = { target := .fn (.func g) caps, args := vals } ∧ P.funcs[g]? = some gn ∧ (gn.name == "runtime.NumGoroutine") = false ∧ gn.body.isSome = true ∧
      ∀ w1, J.rel w w1 → DefJ J g (vals ++ caps) pv w1 fun w' => leavesJ J fn tmps R ds none w')

theorem callFunc_runT {g : FuncId} {gn : Func} {args : Array Value} {w : World} (hfn : P.funcs[g]? = some gn) (hname : (gn.name == "runtime.NumGoroutine") = false) (hb : gn.body.isSome = true) : (callFunc g args).runT P w #[] = (.ok (.enter g args) w, #[]) := by
  have hbn : gn.body.isNone = false := by cases hq : gn.body <;> simp [hq] at hb ⊢
  unfold callFunc
  show (match P.funcs[g]? with
    | none => stuck "call: no such function"
    | some fn => _ : Sem Next).runT P w #[] = _
  rw [hfn]
  simp only [hname, hbn, Bool.false_eq_true, if_false]
  rfl

theorem ns_callFunc {l : Nat} {g : FuncId} {gn : Func} {args : Array Value} (hfn : P.funcs[g]? = some gn) (hname : (gn.name == "runtime.NumGoroutine") = false) (hb : gn.body.isSome = true) : NS l P (callFunc g args) := by
  have hbn : gn.body.isNone = false := by cases hq : gn.body <;> simp [hq] at hb ⊢
  unfold callFunc
  show NS l P (match P.funcs[g]? with
    | none => stuck "call: no such function"
    | some fn => _ : Sem Next)
  rw [hfn]
  simp only [hname, hbn, Bool.false_eq_true, if_false]
  trivial

/-- A frame about to be left. -/
def AtEnd (J : Judg P) (f : FuncId) (R : Ending → World → Prop) (fr : Frame) (w : World) : Prop :=
  fr.fn = f ∧ fr.kind = .normal ∧ fr.defers = [] ∧ ∃ fn, P.funcs[f]? = some fn ∧
    ((fr.mode = .returning ∧ ∀ w1, J.rel w w1 → ∃ v, (results fn fr.tmps).run P w1 = .ok v w1 ∧ R (.returned v) w1) ∨
     (∃ v, fr.mode = .panicking [{ v, recovered := false }] ∧ R (.panicked [{ v, recovered := false }]) w))

/-- A function's contract, to its frame's end. -/
def CallsL (J : Judg P) (f : FuncId) (args : Array Value) (w : World) (R : Ending → World → Prop) : Prop :=
  ∀ (cs : List Frame) (S : SetS), J.closed S → (∀ fr w', AtEnd J f R fr w' → S fr cs w') → S (Frame.enter P f args .normal) cs w

theorem leavesL_sound {f : FuncId} {fn : Func} {R : Ending → World → Prop} {S : SetS} (hS : J.closed S) {cs : List Frame} (hf : P.funcs[f]? = some fn) (hR : ∀ fr w', AtEnd J f R fr w' → S fr cs w') :
    ∀ (ds : List Deferred) (pv : Option Value) (fr : Frame) (w : World), fr.fn = f → fr.mode = leftBy pv → fr.kind = .normal → fr.defers = ds → leavesJ J fn fr.tmps R ds pv w → S fr cs w
  | [], none, fr, w, hff, hm, hk, hd, h => hR _ _ ⟨hff, hk, hd, fn, hf, .inl ⟨hm, h⟩⟩
  | [], some v, fr, w, hff, hm, hk, hd, h => hR _ _ ⟨hff, hk, hd, fn, hf, .inr ⟨v, hm, h⟩⟩
  | d :: ds, pv, fr, w, hff, hm, hk, hd, h => by
    have hst : ∀ w, stepG P J.main (gor fr cs) w = unwind P J.main fr cs none w := fun w => by
      unfold stepG
      cases pv <;> simp only [leftBy] at hm <;> simp only [gor, hm]
    rcases h with ⟨r, rfl, h⟩ | ⟨g, gn, caps, vals, rfl, hg, hname, hb, h⟩
    · refine J.okStep hS (Instr.takeDeferred r) (fun calls => ({ fr with defers := calls ++ ds }, cs)) (fun _ => ?_) (fun w v w' hv => ⟨seen P fr.fn ((Instr.takeDeferred r).runT P w #[]).2, ?_, seen_runT⟩) fun w1 h1 => ?_
      · unfold Instr.takeDeferred
        refine NS.bind (ns_getObj _) fun _ => ?_
        split
        · exact NS.bind (ns_setDef _ _) fun _ => ns_pure _
        · exact ns_stuck _
      · have e0 := runT_of hv
        rw [hst]
        unfold unwind
        simp only [hd]
        rw [e0]
        simp only [GStep.after, Array.append_empty, gor]
      · obtain ⟨hh, hn⟩ := h w1 h1
        exact ⟨[], _, run_takeDeferred (P := P) hh, leavesL_sound hS hf hR ds pv { fr with defers := [] ++ ds } _ hff hm hk rfl hn⟩
    · refine J.okStep hS (callFunc g (vals ++ caps)) (fun nx => match nx with | .enter f args => (Frame.enter P f args .deferred, { fr with defers := ds } :: cs) | _ => (fr, cs)) (fun _ => ns_callFunc hg hname hb) (fun w v w' hv => ⟨#[], ?_, by simp⟩) fun w1 h1 => ?_
      · have e0 := callFunc_runT (args := vals ++ caps) (w := w) hg hname hb
        have e1 : (callFunc g (vals ++ caps)).run P w = .ok (.enter g (vals ++ caps)) w := by rw [← Sem.runT_fst P _ w #[], e0]
        rw [e1] at hv
        cases hv
        rw [hst]
        unfold unwind
        simp only [hd]
        unfold callDeferred
        show (if ((match (Target.fn (Fn.func g) caps) with | .nil => true | _ => false) && _) = true then _ else _) = _
        simp only [Bool.false_and, Bool.false_eq_true, if_false]
        unfold invoke
        simp only [e0, seen, GStep.after, gor]
        simp
      · have e0 := callFunc_runT (args := vals ++ caps) (w := w1) hg hname hb
        refine ⟨.enter g (vals ++ caps), w1, by rw [← Sem.runT_fst P _ w1 #[], e0], ?_⟩
        refine h w1 h1 { fr with defers := ds } cs S hS hm fun w' hw' => ?_
        exact leavesL_sound hS hf hR ds none { { fr with defers := ds } with mode := .returning } _ hff rfl hk rfl hw'

/-- The frame's end, and the caller behind it. -/
theorem AtEnd.back {f : FuncId} {R : Ending → World → Prop} {S : SetS} (hS : J.closed S) {c : Frame} {cs : List Frame} (hR : ∀ e w', R e w' → Back S c cs e w') {fr : Frame} {w : World} (h : AtEnd J f R fr w) : S fr (c :: cs) w := by
  obtain ⟨hff, hk, hd, fn, hf, h⟩ := h
  subst hff
  rcases h with ⟨hm, h⟩ | ⟨v, hm, h⟩
  · refine J.okStep hS (results fn fr.tmps) (fun v => (c.finish v, cs)) (fun _ => ns_results _ _) (fun w v w' hv => ⟨seen P fr.fn ((results fn fr.tmps).runT P w #[]).2, ?_, seen_runT⟩) fun w1 h1 => ?_
    · have e0 := runT_of hv
      unfold stepG
      simp only [gor, hm]
      unfold unwind
      simp only [hd, hm, hf]
      rw [e0]
      simp only [doReturn, hk, GStep.after, Array.append_empty]
    · obtain ⟨v, hv, hv2⟩ := h w1 h1
      exact ⟨v, w1, hv, hR _ _ hv2⟩
  · refine J.move hS (fr' := c.raise [{ v, recovered := false }]) (cs' := cs) (fun w => ?_) (hR _ _ h)
    unfold stepG
    simp only [gor, hm]
    unfold unwind
    simp [hd, hm, Frame.catches, hf]

theorem CallsL.calls {f : FuncId} {args : Array Value} {w : World} {R : Ending → World → Prop} (h : CallsL J f args w R) : CallsJ J f args w R :=
  fun c cs S hS hR => h (c :: cs) S hS fun _ _ hE => hE.back hS hR
theorem AtEnd.mono {f : FuncId} {R R' : Ending → World → Prop} (hr : ∀ e w', R e w' → R' e w') {fr : Frame} {w : World} (h : AtEnd J f R fr w) : AtEnd J f R' fr w := by
  obtain ⟨h1, h2, h3, fn, h4, h⟩ := h
  refine ⟨h1, h2, h3, fn, h4, ?_⟩
  rcases h with ⟨hm, h⟩ | ⟨v, hm, h⟩
  · exact .inl ⟨hm, fun w1 hw => by obtain ⟨v, q1, q2⟩ := h w1 hw; exact ⟨v, q1, hr _ _ q2⟩⟩
  · exact .inr ⟨v, hm, hr _ _ h⟩
theorem CallsL.mono {f : FuncId} {args : Array Value} {w : World} {R R' : Ending → World → Prop} (h : CallsL J f args w R) (hr : ∀ e w', R e w' → R' e w') : CallsL J f args w R' :=
  fun cs S hS hR => h cs S hS fun fr w' q => hR fr w' (q.mono hr)

def bodyPostJ (J : Judg P) (fn : Func) (R : Ending → World → Prop) : Exit → Act → World → Prop
  | .normal, a, w => leavesJ J fn a.tmps R a.defers none w
  | .ret, a, w => leavesJ J fn a.tmps R a.defers none w
  | .panic ch, a, w => ∃ v, ch = [{ v, recovered := false }] ∧ leavesJ J fn a.tmps R a.defers (some v) w
  | _, _, _ => False

theorem callsL_of_wp {f : FuncId} {fn : Func} {c : Code} {args : Array Value} {w : World} {R : Ending → World → Prop} (hf : P.funcs[f]? = some fn) (hb : fn.body = some c)
    (h : wpJ J c (bodyPostJ J fn R) { tmps := args ++ Array.replicate (fn.ntmps - args.size) undef, defers := [] } w) : CallsL J f args w R := by
  intro cs S hS hR
  let b : Frame := { (default : Frame) with fn := f, kind := .normal, roundOf := none }
  have henter : Frame.enter P f args .normal = b.atR { tmps := args ++ Array.replicate (fn.ntmps - args.size) undef, defers := [] } [.code c] := by
    simp [Frame.enter, Frame.atR, hf, hb, b]
  rw [henter]
  refine h b [] cs S (.inl rfl) hS fun e a' w' q => ?_
  cases e with
  | normal =>
    refine J.move hS (fr' := { b.atR a' [] with mode := .returning }) (cs' := cs) (fun w => by simp [stepG, stepG.exec, Frame.atR, gor, b]) ?_
    exact leavesL_sound hS hf hR _ none _ _ rfl rfl rfl rfl q
  | ret =>
    intro k0
    refine J.move hS (fr' := { b.atR a' (.code .ret :: k0) with mode := .returning }) (cs' := cs) (fun w => by simp [stepG, stepG.exec, Frame.atR, gor, b]) ?_
    exact leavesL_sound hS hf hR _ none _ _ rfl rfl rfl rfl q
  | panic ch =>
    intro todo
    obtain ⟨v, rfl, hq⟩ := q
    exact leavesL_sound hS hf hR _ (some v) _ _ rfl rfl rfl rfl hq
  | exit id => exact q.elim
  | goto l => exact q.elim
  | outgrown => trivial

/-! ## Rounds -/

/-- What is asked when a round has been left, with what jump. -/
def roundEnd (J : Judg P) (l : Nat) (R : Ending → World → Prop) (jump : Option Code) (w : World) : Prop :=
  ∀ w1, J.rel w w1 → ∃ r : Loop, w1.heap[l]? = some (.loop r) ∧ R (.returned (.bool jump.isNone)) (w1.putObj l (.loop { r with state := if jump.isNone then .ready else .done, pending := jump }))

theorem ns_endRound {l : Nat} {x : Nat} {j : Option Code} : NS l P (Instr.endRound x j) := by
  unfold Instr.endRound Instr.getLoop
  refine NS.bind (NS.bind (ns_getObj _) fun _ => ?_) fun _ => NS.bind (ns_setLoop _ _) fun _ => ns_pure _
  split
  · exact ns_pure _
  · exact ns_stuck _

theorem roundEnd_sound {l : Nat} {R : Ending → World → Prop} {S : SetS} (hS : J.closed S) {c : Frame} {cs : List Frame} (hR : ∀ e w', R e w' → Back S c cs e w') {jump : Option Code} {fr : Frame} {w : World} (hk : fr.kind = .normal)
    (hstep : ∀ w, stepG P J.main (gor fr (c :: cs)) w = GStep.after (seen P fr.fn ((Instr.endRound l jump).runT P w #[]).2) (match ((Instr.endRound l jump).runT P w #[]).1 with
        | .ok v w => doReturn P J.main fr (c :: cs) none v w
        | .halt _ w => .ended (.stuck "range over a function: no such loop" (fr.pos P)) w))
    (h : roundEnd J l R jump w) : S fr (c :: cs) w := by
  refine J.okStep hS (Instr.endRound l jump) (fun v => (c.finish v, cs)) (fun _ => ns_endRound) (fun w v w' hv => ⟨seen P fr.fn ((Instr.endRound l jump).runT P w #[]).2, ?_, seen_runT⟩) fun w1 h1 => ?_
  · have e0 := runT_of hv
    rw [hstep w, e0]
    simp only [doReturn, hk, GStep.after, Array.append_empty, gor]
  · obtain ⟨r, hr, hq⟩ := h w1 h1
    exact ⟨_, _, run_endRound (P := P) jump hr, hR _ _ hq⟩

def roundPost (J : Judg P) (l : Nat) (R : Ending → World → Prop) : Exit → Act → World → Prop
  | .normal, _, w => roundEnd J l R none w
  | .ret, _, w => roundEnd J l R (some .ret) w
  | .exit id, _, w => roundEnd J l R (some (.exit id)) w
  | .goto t, _, w => roundEnd J l R (some (.goto t)) w
  | _, _, _ => False

theorem ns_beginRound {l x : Nat} : NS l P (Instr.beginRound x) := by
  unfold Instr.beginRound Instr.getLoop
  refine NS.bind (NS.bind (ns_getObj _) fun _ => ?_) fun _ => NS.bind (ns_setLoop _ _) fun _ => ?_
  · split
    · exact ns_pure _
    · exact ns_stuck _
  · split
    · exact ns_pure _
    · exact ns_runtimePanic _
    · exact ns_runtimePanic _
    · exact ns_runtimePanic _

/-- The assignment to the loop's left sides has been done: the round begins. -/
def roundBegin (J : Judg P) (l : Nat) (R : Ending → World → Prop) (bd : Code) (a : Act) (w : World) : Prop :=
  ∀ w1, J.rel w w1 → ∃ r : Loop, w1.heap[l]? = some (.loop r) ∧ r.state = .ready ∧ wpJ J bd (roundPost J l R) a (w1.putObj l (.loop { r with state := .busy }))

theorem roundJ {l : Nat} {f : FuncId} {tmps : Array Value} {as bd : Code} {w : World} {R : Ending → World → Prop} (has : flatC as = true) (hbd : flatC bd = true)
    (h : wpJ J as (fun e a w => e = .normal ∧ roundBegin J l R bd a w) { tmps := tmps, defers := [] } w) : RoundJ J l f tmps as bd w R := by
  intro c cs S hS hR
  let b : Frame := { (default : Frame) with fn := f, kind := .normal, roundOf := some l }
  have henter : Frame.round l f tmps as bd .normal = b.atR { tmps := tmps, defers := [] } [.code as, .beginRound, .code bd] := rfl
  rw [henter]
  refine h b [.beginRound, .code bd] (c :: cs) S (.inr has) hS fun e a' w' q => ?_
  obtain ⟨rfl, q⟩ := q
  show S (b.atR a' [.beginRound, .code bd]) (c :: cs) w'
  refine J.opStep hS (s := do Instr.beginRound l; pure .skip) (fun w => by simp [stepG, stepG.exec, Frame.atR, gor, b]) (by simp [Frame.atR]) (fun _ => NS.bind ns_beginRound fun _ => ns_pure _) fun w1 h1 => ?_
  obtain ⟨r, hr, hst, hw⟩ := q w1 h1
  have hv : (do Instr.beginRound l; pure Next.skip : Sem Next).run P w1 = .ok .skip (w1.putObj l (.loop { r with state := .busy })) := by
    simp only [Sem.run_bind, run_beginRound (P := P) hr hst, Result.andThen_ok, Sem.run_pure]
  rw [hv]
  refine ⟨trivial, ?_⟩
  show S ((b.atR a' [.beginRound, .code bd]).finish undef) (c :: cs) _
  refine hw b [] (c :: cs) S (.inr hbd) hS fun e a2 w2 q2 => ?_
  cases e with
  | normal => exact roundEnd_sound hS hR rfl (fun w => by simp [stepG, stepG.exec, Frame.atR, gor, b]; rfl) q2
  | ret => exact fun k0 => roundEnd_sound hS hR rfl (fun w => by simp [stepG, stepG.exec, Frame.atR, gor, b]; rfl) q2
  | exit id => exact fun k0 hk => roundEnd_sound hS hR rfl (fun w => by simp [stepG, stepG.exec, Frame.atR, gor, b, show exitTo id k0 = none from hk]; rfl) q2
  | goto t => exact fun k0 hk => roundEnd_sound hS hR rfl (fun w => by simp [stepG, stepG.exec, Frame.atR, gor, b, show gotoIn t k0 = none from hk]; rfl) q2
  | panic ch => exact q2.elim
  | outgrown => trivial

/-! ## A range over a function -/

theorem ns_endLoop {l x : Nat} : NS l P (Instr.endLoop x) := by
  unfold Instr.endLoop Instr.getLoop
  refine NS.bind (NS.bind (ns_getObj _) fun _ => ?_) fun _ => ?_
  · split
    · exact ns_pure _
    · exact ns_stuck _
  · dsimp only
    split
    · exact NS.bind (ns_runtimePanic _) fun _ => NS.bind (ns_setLoop _ _) fun _ => ns_pure _
    · exact NS.bind (ns_setLoop _ _) fun _ => ns_pure _

/-- Behind the call of the function that is ranged over. -/
def loopEnd (J : Judg P) (l : Nat) (Q : Exit → Act → World → Prop) (a : Act) (w : World) : Prop :=
  ∀ w1, J.rel w w1 → ∃ r : Loop, w1.heap[l]? = some (.loop r) ∧ r.state ≠ .busy ∧ match r.pending with
    | none => Q .normal a (w1.putObj l (.loop { r with state := .exhausted }))
    | some .ret => Q .ret a (w1.putObj l (.loop { r with state := .exhausted }))
    | some (.exit id) => Q (.exit id) a (w1.putObj l (.loop { r with state := .exhausted }))
    | some (.goto t) => Q (.goto t) a (w1.putObj l (.loop { r with state := .exhausted }))
    | _ => False

theorem wpJ_rangeFunc {f : Operand} {g : FuncId} {fn : Func} {caps : Array Value} {ps : Array Tmp} {as bd : Code} {a : Act} {w : World} (hf : a.eval f = .func (.func g) #[] caps) (hfn : P.funcs[g]? = some fn) (hname : (fn.name == "runtime.NumGoroutine") = false) (hb : fn.body.isSome = true)
    (h : ∀ w1, J.rel w w1 → ∀ fid, CallsJ J g (#[.func (.yield (w1.heap.size + 1)) #[] #[]] ++ caps)
        ((w1.alloc (.deferred (some []))).alloc (.loop { state := .ready, pending := none, fn := fid, tmps := a.tmps, params := ps, assign := as, body := bd, defers := w1.heap.size }))
        (fun e w' => ∃ v, e = .returned v ∧ loopEnd J (w1.heap.size + 1) Q { a with defers := { target := .collected w1.heap.size, args := #[] } :: a.defers } w')) :
    wpJ J (.rangeFunc f ps as bd) Q a w := fun b k cs S hd hS hQ => by
  have hb0 : b.roundOf = none := hd.resolve_right (by simp [flatC])
  have hbn : fn.body.isNone = false := by cases hq : fn.body <;> simp [hq] at hb ⊢
  have he : (b.atR a (.code (.rangeFunc f ps as bd) :: k)).eval f = .func (.func g) #[] caps := by rw [Frame.eval_atR]; exact hf
  -- the one step: the record is laid, the function is entered
  let s2 : Nat → Sem Next := fun l => callFunc g (#[.func (.yield l) #[] #[]] ++ caps)
  let s : Sem ((Nat × List Deferred) × Next) := do
    let x ← Instr.enterLoop b.fn a.tmps ps as bd none
    let n ← s2 x.1
    pure (x, n)
  have hrun : ∀ w1 : World, s.runT P w1 #[] = (.ok ((w1.heap.size + 1, [{ target := .collected w1.heap.size, args := #[] }]), .enter g (#[.func (.yield (w1.heap.size + 1)) #[] #[]] ++ caps))
      ((w1.alloc (.deferred (some []))).alloc (.loop { state := .ready, pending := none, fn := b.fn, tmps := a.tmps, params := ps, assign := as, body := bd, defers := w1.heap.size })), #[]) := fun w1 => by
    have hr1 := run_enterLoop_outer (P := P) (w := w1) b.fn a.tmps ps as bd
    have ev0 : (Instr.enterLoop b.fn a.tmps ps as bd none).events P w1 #[] = #[] := by
      unfold Instr.enterLoop
      rfl
    have h2 := fun l w => callFunc_runT (P := P) (args := #[.func (.yield l) #[] #[]] ++ caps) (w := w) hfn hname hb
    show ((Instr.enterLoop b.fn a.tmps ps as bd none).bind fun x => (s2 x.1).bind fun n => Sem.pure (x, n)).runT P w1 #[] = _
    rw [Sem.runT_bind', Sem.runT_eq, hr1, ev0]
    dsimp only
    rw [Sem.runT_bind', h2]
    rfl
  have hrun1 : ∀ w1, s.run P w1 = _ := fun w1 => (Sem.runT_fst P s w1 #[]).symm.trans (congrArg Prod.fst (hrun w1))
  have hp : ∀ (fr : Frame) (l : Nat) (W : World), (fr.eval f = .func (.func g) #[] caps) → (do let d ← resolve fr.eval { callee := .value f, args := #[.const (.func (.yield l) #[] #[])], argTypes := #[] } 0; invoke d.target d.args : Sem Next).runT P W #[] = (.ok (.enter g (#[.func (.yield l) #[] #[]] ++ caps)) W, #[]) := by
    intro fr l W hfr
    have e1 : (do let d ← resolve fr.eval { callee := .value f, args := #[.const (.func (.yield l) #[] #[])], argTypes := #[] } 0; invoke d.target d.args : Sem Next) = callFunc g (#[.func (.yield l) #[] #[]] ++ caps) := by
      unfold resolve
      simp only [hfr, Deferred.ofValue]
      show callFunc g ((#[] ++ Array.map fr.eval #[.const (.func (.yield l) #[] #[])]) ++ caps) = _
      simp [Frame.eval]
    rw [e1]
    exact callFunc_runT hfn hname hb
  refine J.okStep hS s (fun x => match x.2 with | .enter g' args => (Frame.enter P g' args .normal, b.atR { a with defers := x.1.2 ++ a.defers } (.inRangeFunc x.1.1 :: k) :: cs) | _ => (b, cs)) (fun _ => ?_) (fun w1 v w' hv => ⟨#[], ?_, by simp⟩) fun w1 h1 => ?_
  · refine NS.bind ?_ fun x => NS.bind (ns_callFunc hfn hname hb) fun _ => ns_pure _
    unfold Instr.enterLoop
    repeat' (first | with_reducible exact ns_pure _ | with_reducible exact ns_newDef _ | with_reducible exact ns_newLoop _ | with_reducible refine NS.bind ?_ (fun _ => ?_) | split | dsimp only)
  · rw [hrun1 w1] at hv
    cases hv
    have hr1 := run_enterLoop_outer (P := P) (w := w1) b.fn a.tmps ps as bd
    have ev0 : (Instr.enterLoop b.fn a.tmps ps as bd none).events P w1 #[] = #[] := by
      unfold Instr.enterLoop
      rfl
    generalize hW : ((w1.alloc (.deferred (some []))).alloc (.loop { state := .ready, pending := none, fn := b.fn, tmps := a.tmps, params := ps, assign := as, body := bd, defers := w1.heap.size })) = W at hr1
    have e0 : (Instr.enterLoop b.fn a.tmps ps as bd none).runT P w1 #[] = (.ok (w1.heap.size + 1, [{ target := .collected w1.heap.size, args := #[] }]) W, #[]) := by rw [Sem.runT_eq, hr1, ev0]
    have hp1 := hp ({ b.atR a (.code (.rangeFunc f ps as bd) :: k) with todo := .inRangeFunc (w1.heap.size + 1) :: k, defers := [{ target := .collected w1.heap.size, args := #[] }] ++ a.defers }) (w1.heap.size + 1) W (by rw [← he]; rfl)
    unfold stepG
    simp only [gor, Frame.atR]
    unfold stepG.exec
    simp only [hb0]
    rw [e0]
    simp only [GStep.after, seen]
    unfold stepG.apply
    simp only [Frame.atR, hb0] at hp1
    simp only [hp1, if_true]
    simp [seen, GStep.after, Frame.atR, hb0]
  · refine ⟨_, _, hrun1 w1, ?_⟩
    let fr1 : Frame := b.atR { a with defers := [{ target := .collected w1.heap.size, args := #[] }] ++ a.defers } (.inRangeFunc (w1.heap.size + 1) :: k)
    show S (Frame.enter P g (#[.func (.yield (w1.heap.size + 1)) #[] #[]] ++ caps) .normal) (fr1 :: cs) _
    refine h w1 h1 b.fn fr1 cs S hS fun e w' q => ?_
    obtain ⟨v, rfl, q⟩ := q
    show S (fr1.finish v) cs w'
    have efin : fr1.finish v = b.atR { a with defers := { target := .collected w1.heap.size, args := #[] } :: a.defers } (.endRangeFunc (w1.heap.size + 1) :: k) := by
      simp [fr1, Frame.finish, Frame.atR]
    rw [efin]
    refine J.okStep hS (Instr.endLoop (w1.heap.size + 1)) (fun pend => (b.atR { a with defers := { target := .collected w1.heap.size, args := #[] } :: a.defers } ((pend.map Item.code).toList ++ k), cs)) (fun _ => ns_endLoop) (fun w2 v2 w3 hv2 => ⟨seen P b.fn ((Instr.endLoop (w1.heap.size + 1)).runT P w2 #[]).2, ?_, seen_runT⟩) fun w2 h2 => ?_
    · have e0 := runT_of hv2
      unfold stepG
      simp only [gor, Frame.atR]
      unfold stepG.exec
      simp only
      rw [e0]
      simp only [GStep.after, Array.append_empty]
    · obtain ⟨r, hr, hst, hq⟩ := q w2 h2
      refine ⟨_, _, run_endLoop (P := P) hr hst, ?_⟩
      cases hp : r.pending with
      | none => rw [hp] at hq; exact hQ _ _ _ hq
      | some j =>
        rw [hp] at hq
        cases j with
        | ret => exact hQ _ _ _ hq k
        | exit id => exact hQ _ _ _ hq k rfl
        | goto t => exact hQ _ _ _ hq k rfl
        | _ => exact hq.elim

end
end Go.Ax
