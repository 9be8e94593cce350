/- The abstract executor: how a function's summary is proved out of its abstract run. -/
import Derived.Test.YtljchidgchjoeaaAx11
namespace Go.Ax
open Go Go.RowKit

def SV.flat : SV → Bool
  | .li .. => true
  | .si .. => true
  | .lb _ => true
  | .sb _ => true
  | _ => false
def TV.flat : TV → Bool
  | .one s => s.flat
  | .agg l => l.all SV.flat
def AV.flat : AV → Bool
  | .one s => s.flat
  | .agg l => l.all SV.flat
  | .tup l => l.all TV.flat

theorem SV.flat_R {env env' : Nat → Nat} {m m' : Nat} {s : SV} {v : Value} (hf : s.flat = true) (h : s.R env m v) : s.R env' m' v := by
  cases s <;> first | (cases hf; done) | exact h

theorem all2_flat {env env' : Nat → Nat} {m m' : Nat} : ∀ {l : List SV} {vs : List Value}, l.all SV.flat = true → All2 (SV.R env m) l vs → All2 (SV.R env' m') l vs
  | [], [], _, _ => trivial
  | s :: l, v :: vs, hf, h => by
    simp only [List.all_cons, Bool.and_eq_true] at hf
    exact ⟨SV.flat_R hf.1 h.1, all2_flat hf.2 h.2⟩
  | [], _ :: _, _, h => h.elim
  | _ :: _, [], _, h => h.elim

theorem TV.flat_R {env env' : Nat → Nat} {m m' : Nat} {s : TV} {v : Value} (hf : s.flat = true) (h : s.R env m v) : s.R env' m' v := by
  cases s with
  | one s => exact SV.flat_R hf h
  | agg l => obtain ⟨vs, h1, h2⟩ := h; exact ⟨vs, h1, all2_flat hf h2⟩

theorem all2_flatT {env env' : Nat → Nat} {m m' : Nat} : ∀ {l : List TV} {vs : List Value}, l.all TV.flat = true → All2 (TV.R env m) l vs → All2 (TV.R env' m') l vs
  | [], [], _, _ => trivial
  | s :: l, v :: vs, hf, h => by
    simp only [List.all_cons, Bool.and_eq_true] at hf
    exact ⟨TV.flat_R hf.1 h.1, all2_flatT hf.2 h.2⟩
  | [], _ :: _, _, h => h.elim
  | _ :: _, [], _, h => h.elim

theorem AV.flat_R {env env' : Nat → Nat} {m m' : Nat} {s : AV} {v : Value} (hf : s.flat = true) (h : s.R env m v) : s.R env' m' v := by
  cases s with
  | one s => exact SV.flat_R hf h
  | agg l => obtain ⟨vs, h1, h2⟩ := h; exact ⟨vs, h1, all2_flat hf h2⟩
  | tup l => obtain ⟨vs, h1, h2⟩ := h; exact ⟨vs, h1, all2_flatT hf h2⟩

theorem all2_flatA {env env' : Nat → Nat} {m m' : Nat} : ∀ {l : List AV} {vs : List Value}, l.all AV.flat = true → All2 (AV.R env m) l vs → All2 (AV.R env' m') l vs
  | [], [], _, _ => trivial
  | s :: l, v :: vs, hf, h => by
    simp only [List.all_cons, Bool.and_eq_true] at hf
    exact ⟨AV.flat_R hf.1 h.1, all2_flatA hf.2 h.2⟩
  | [], _ :: _, _, h => h.elim
  | _ :: _, [], _, h => h.elim

/-! ## The package's variables as the only known memory -/

def envG (gd : List (Nat × List SV)) (i : Nat) : Nat := ((gd[i]?).map (·.1)).getD 0

theorem ofList_get {α : Type} : ∀ (l : List α) (t : Tr α) (i j : Nat) (x : α), (Tr.ofList t i l).get j = some x → t.get j = some x ∨ (i ≤ j ∧ l[j - i]? = some x)
  | [], t, i, j, x, h => .inl h
  | y :: l, t, i, j, x, h => by
    rcases ofList_get l (t.set i y) (i + 1) j x h with h' | ⟨h1, h2⟩
    · by_cases hij : i = j
      · subst hij
        have := Tr.get_set_eq _ _ _ _ h'
        subst this
        exact .inr ⟨Nat.le_refl _, by simp⟩
      · rw [Tr.get_set_ne _ _ _ _ hij] at h'
        exact .inl h'
    · refine .inr ⟨by omega, ?_⟩
      have : j - i = (j - (i + 1)) + 1 := by omega
      rw [this]
      simpa using h2

theorem mem_glFrom {gd : List (Nat × List SV)} : ∀ {i : Nat} {p : Nat × Nat}, p ∈ glFrom i gd → ∃ j, p.2 = i + j ∧ ∃ q, gd[j]? = some q ∧ q.1 = p.1 := by
  induction gd with
  | nil => intro i p h; cases h
  | cons q gd ih =>
    intro i p h
    rcases List.mem_cons.1 h with rfl | h
    · exact ⟨0, rfl, q, rfl, rfl⟩
    · obtain ⟨j, h1, r, h2, h3⟩ := ih h
      exact ⟨j + 1, by omega, r, by simpa using h2, h3⟩

theorem MR.start {C : Cfg} {B : Nat → Prop} {w : World} (hgl : C.gl = glFrom 0 C.gd) (h : GDp C.gd B w) (hB : ∀ b, B b → b < w.heap.size) : MR C (· < w.heap.size) w (envG C.gd) (memG C.gd) w where
  below := Keep.refl _ _
  base := fun _ hb => hb
  lt := fun i ab hi => by
    rcases ofList_get _ _ _ _ _ hi with h | ⟨_, h⟩
    · rw [Tr.get_mk] at h; cases h
    · have := (List.getElem?_eq_some_iff.1 h).1
      simpa [memG] using this
  blk := fun i ab hi => by
    rcases ofList_get _ _ _ _ _ hi with h' | ⟨_, h'⟩
    · rw [Tr.get_mk] at h'; cases h'
    · simp only [Nat.sub_zero, List.getElem?_map] at h'
      obtain ⟨p, hp, rfl⟩ := Option.map_eq_some_iff.1 h'
      obtain ⟨h1, vs, rest, t, fr, h2, h3⟩ := h p (List.mem_of_getElem? hp)
      have he : envG C.gd i = p.1 := by simp [envG, hp]
      rw [he]
      exact ⟨vs, rest, t, fr, h2, h3.imp fun _ _ => SV.R_ext ⟨Nat.zero_le _, fun _ hi => absurd hi (Nat.not_lt_zero _)⟩, hB _ h1⟩
  sep := fun i j a b hi _ _ ha _ => by
    rcases ofList_get _ _ _ _ _ hi with h' | ⟨_, h'⟩
    · rw [Tr.get_mk] at h'; cases h'
    · simp only [Nat.sub_zero, List.getElem?_map] at h'
      obtain ⟨p, hp, rfl⟩ := Option.map_eq_some_iff.1 h'
      cases ha
  gl := fun p hp => by
    rw [hgl] at hp
    obtain ⟨j, h1, q, h2, h3⟩ := mem_glFrom hp
    have hj : p.2 = j := by omega
    rw [hj]
    refine ⟨by simp [envG, h2, h3], ?_⟩
    simpa [memG] using (List.getElem?_eq_some_iff.1 h2).1
  gd := fun p hp => by
    obtain ⟨h1, h2⟩ := h p hp
    exact ⟨hB _ h1, h2⟩

/-- A summary whose arguments and result are numbers alone, out of the function's abstract run. -/
theorem psok_of {C : Cfg} (hC : COk C) (hgl : C.gl = glFrom 0 C.gd) {g : Nat} {fn : Func} (hfn : FnOk C.P g fn) (hb : fn.body.isSome = true) {F : List AV → Mem → Option (List Prop × AV)}
    (Hf : ∀ args mem r conds, F args mem = some (conds, r) → args.all AV.flat = true ∧ r.flat = true)
    (H : ∀ args mem r conds, F args mem = some (conds, r) → allP conds → ∀ vals, All2 (AV.R (fun _ => 0) 0) args vals → ∃ args' n, All2 (AV.R (fun _ => 0) 0) args' vals ∧ args'.all AV.flat = true ∧
      (callA C false n fn args' (memG C.gd)).sat fun v _ => v.flat = true ∧ ∀ val, v.R (fun _ => 0) 0 val → r.R (fun _ => 0) 0 val) : PSOk C g F := by
  refine ⟨⟨fn, hfn, hb⟩, fun args mem r conds hF hp B w0 w env vals hm ha => ?_⟩
  obtain ⟨hflat, hr⟩ := Hf args mem r conds hF
  obtain ⟨args', n, ha', hfa', hrun⟩ := H args mem r conds hF hp vals (all2_flatA hflat ha)
  have hs := MR.start (C := C) hgl hm.gd hm.base
  refine (callA_calls hC hfn hrun hs (all2_flatA hfa' ha')).mono ?_
  rintro e w' ⟨v, he, r', mem', env', ⟨hf', hK⟩, hm', hx, hR⟩
  exact ⟨⟨v, he, AV.flat_R hr (hK v (AV.flat_R hf' hR))⟩, hm'.below.below⟩

def Cfg.sig (C : Cfg) : (P : Program) × Judg P := ⟨C.P, C.J⟩
theorem sig_P {C C' : Cfg} (h : C'.sig = C.sig) : C'.P = C.P := congrArg Sigma.fst h
theorem sig_calls {C C' : Cfg} (h : C'.sig = C.sig) {g : Nat} {a : Array Value} {w : World} {R : Ending → World → Prop} (hc : CallsJ C.J g a w R) : CallsJ C'.J g a w R := by
  have key : ∀ s s' : (P : Program) × Judg P, s' = s → CallsJ s.2 g a w R → CallsJ s'.2 g a w R := by rintro s s' rfl h; exact h
  exact key C.sig C'.sig h hc
theorem sig_wp {C C' : Cfg} (h : C'.sig = C.sig) {c : Code} {a : Act} {w : World} {Q : Exit → Act → World → Prop} (hc : wpJ C.J c Q a w) : wpJ C'.J c Q a w := by
  have key : ∀ s s' : (P : Program) × Judg P, s' = s → wpJ s.2 c Q a w → wpJ s'.2 c Q a w := by rintro s s' rfl h; exact h
  exact key C.sig C'.sig h hc
theorem sig_loop {C C' : Cfg} (h : C'.sig = C.sig) {c : Code} {a : Act} {w : World} {Q : Exit → Act → World → Prop} (hc : InLoopJ C.J c Q a w) : InLoopJ C'.J c Q a w := by
  have key : ∀ s s' : (P : Program) × Judg P, s' = s → InLoopJ s.2 c Q a w → InLoopJ s'.2 c Q a w := by rintro s s' rfl h; exact h
  exact key C.sig C'.sig h hc

/-- Summaries hang on the program, its judgement and its variables alone. -/
theorem PSOk.cast {C C' : Cfg} {g : Nat} {F : List AV → Mem → Option (List Prop × AV)} (h : PSOk C g F) (hP : C'.sig = C.sig) (hgl : C'.gl = C.gl) (hgd : C'.gd = C.gd) : PSOk C' g F := by
  obtain ⟨h1, h2⟩ := h
  refine ⟨by rw [sig_P hP]; exact h1, fun args mem r conds hF hp B w0 w env vals hm ha => ?_⟩
  exact sig_calls hP (h2 args mem r conds hF hp B w0 w env vals ⟨hm.below, hm.base, hm.lt, hm.blk, hm.sep, by rw [← hgl]; exact hm.gl, by rw [← hgd]; exact hm.gd⟩ ha)

/-! ## Summaries over integers and rows of integers -/

/-- The shape of an argument: an integer, or an array (a struct) of integers. -/
inductive Sh where
  | w (k : IntKind)
  | l (k : IntKind) (n : Nat)
  | b

def Sh.len : Sh → Nat
  | .w _ => 1
  | .l _ n => n
  | .b => 1
def Sh.kind : Sh → IntKind
  | .w k => k
  | .l k _ => k
  | .b => .u8

def parse1 (sh : Sh) (x : AV) : Option (Bool × List Int) :=
  match sh, x with
  | .w k, .one (.li k' n) => match kEq k k' with | true => some (true, [n]) | false => none
  | .w k, .one (.si k' n) => match kEq k k' with | true => some (false, [n]) | false => none
  | .l k n, .agg l => match intsOf k l with
    | some es => match Nat.beq es.length n with | true => some (false, es) | false => none
    | none => none
  | .b, .one (.lb c) => some (true, [iteI c 1 0])
  | .b, .one (.sb c) => some (false, [iteI c 1 0])
  | _, _ => none

def parse : List Sh → List AV → Option (Bool × List (List Int))
  | [], [] => some (true, [])
  | sh :: shs, x :: xs => match parse1 sh x, parse shs xs with
    | some (b, es), some (b', ess) => some (b && b', es :: ess)
    | _, _ => none
  | _, _ => none

def mkArg (sh : Sh) (es : List Int) : AV :=
  match sh with
  | .w k => .one (.si k (es.getD 0 0))
  | .l k _ => .agg (es.map (.si k))
  | .b => .one (.sb (es.getD 0 0 != 0))

def mkArgs : List Sh → List (List Int) → List AV
  | sh :: shs, es :: ess => mkArg sh es :: mkArgs shs ess
  | _, _ => []

/-- What is told of a result. -/
inductive GP where
  | w (k : IntKind) (e : Int)
  | b (x : Bool)
  | l (k : IntKind) (es : List Int)

inductive GR where
  | p (x : GP)
  | t (l : List GP)

def GP.mk (lit : Bool) : GP → AV
  | .w k e => match lit with | true => .one (.li k e) | false => .one (.si k e)
  | .b x => match lit with | true => .one (.lb x) | false => .one (.sb x)
  | .l k es => .agg (es.map (.si k))

def GP.mkT (lit : Bool) : GP → TV
  | .w k e => match lit with | true => .one (.li k e) | false => .one (.si k e)
  | .b x => match lit with | true => .one (.lb x) | false => .one (.sb x)
  | .l k es => .agg (es.map (.si k))

def GR.mk (lit : Bool) : GR → AV
  | .p x => x.mk lit
  | .t l => .tup (l.map (GP.mkT lit))

/-- A summary by a function of the numbers that come in. -/
def gsum (shs : List Sh) (conds : List (List Int) → List Prop) (T : List (List Int) → GR) : List AV → Mem → Option (List Prop × AV) := fun args _ =>
  match parse shs args with
  | some (lit, ess) => some (conds ess, (T ess).mk lit)
  | none => none

/-- The first n numbers of f. -/
def tab (n : Nat) (f : Nat → Int) : List Int := (List.range n).map f

def tabs : List Sh → Nat → (Nat → Nat → Int) → List (List Int)
  | [], _, _ => []
  | sh :: shs, i, fs => tab sh.len (fs i) :: tabs shs (i + 1) fs

def okL (sh : Sh) (es : List Int) : Prop := es.length = sh.len ∧ ∀ e ∈ es, okI sh.kind e
def okLs : List Sh → List (List Int) → Prop
  | [], [] => True
  | sh :: shs, es :: ess => okL sh es ∧ okLs shs ess
  | _, _ => False

theorem intsOf_flat {k : IntKind} : ∀ {l : List SV} {es : List Int}, intsOf k l = some es → l.all SV.flat = true
  | [], _, _ => rfl
  | s :: l, es, h => by
    cases s with
    | li k' n =>
      simp only [intsOf] at h
      split at h
      · rename_i es' hk he; simp [SV.flat, intsOf_flat he]
      · cases h
    | si k' n =>
      simp only [intsOf] at h
      split at h
      · rename_i es' hk he; simp [SV.flat, intsOf_flat he]
      · cases h
    | _ => simp [intsOf] at h

theorem okb (c : Bool) : okL .b [iteI c 1 0] := ⟨rfl, fun e he => by rw [List.mem_singleton.1 he]; cases c <;> decide⟩
theorem parse1_spec {sh : Sh} {x : AV} {b : Bool} {es : List Int} (h : parse1 sh x = some (b, es)) : x.flat = true ∧ ∀ v, x.R (fun _ => 0) 0 v → (mkArg sh es).R (fun _ => 0) 0 v ∧ okL sh es := by
  unfold parse1 at h
  split at h
  · rename_i k k' n
    split at h
    · rename_i hk
      have := kEq_of hk; subst this
      cases h
      exact ⟨rfl, fun v hv => ⟨hv, rfl, fun e he => by rw [List.mem_singleton.1 he]; exact hv.1⟩⟩
    · cases h
  · rename_i k k' n
    split at h
    · rename_i hk
      have := kEq_of hk; subst this
      cases h
      exact ⟨rfl, fun v hv => ⟨hv, rfl, fun e he => by rw [List.mem_singleton.1 he]; exact hv.1⟩⟩
    · cases h
  · rename_i k n l
    split at h
    · rename_i es' he
      split at h
      · rename_i hn
        cases h
        refine ⟨intsOf_flat he, fun v hv => ?_⟩
        obtain ⟨vs, rfl, hl⟩ := hv
        obtain ⟨h1, h2⟩ := intsOf_R he hl
        refine ⟨⟨vs, rfl, ?_⟩, Nat.eq_of_beq_eq_true hn, h2⟩
        rw [h1]
        exact All2.both _ _ es fun e he => ⟨h2 e he, rfl⟩
      · cases h
    · cases h
  · rename_i c
    cases h
    exact ⟨rfl, fun v hv => ⟨by cases c <;> exact hv, okb c⟩⟩
  · rename_i c
    cases h
    exact ⟨rfl, fun v hv => ⟨by cases c <;> exact hv, okb c⟩⟩
  · cases h

theorem parse_spec : ∀ {shs : List Sh} {args : List AV} {b : Bool} {ess : List (List Int)}, parse shs args = some (b, ess) →
    args.all AV.flat = true ∧ ∀ vals, All2 (AV.R (fun _ => 0) 0) args vals → All2 (AV.R (fun _ => 0) 0) (mkArgs shs ess) vals ∧ okLs shs ess
  | [], [], b, ess, h => by cases h; exact ⟨rfl, fun vals hv => ⟨hv, trivial⟩⟩
  | sh :: shs, x :: xs, b, ess, h => by
    simp only [parse] at h
    split at h
    · rename_i b1 es b2 ess' h1 h2
      cases h
      obtain ⟨p1, p2⟩ := parse1_spec h1
      obtain ⟨q1, q2⟩ := parse_spec h2
      refine ⟨by simp [p1, q1], fun vals hv => ?_⟩
      cases vals with
      | nil => exact hv.elim
      | cons v vals =>
        obtain ⟨r1, r2⟩ := p2 v hv.1
        obtain ⟨s1, s2⟩ := q2 vals hv.2
        exact ⟨⟨r1, s1⟩, r2, s2⟩
    · cases h
  | [], _ :: _, _, _, h => by cases h
  | _ :: _, [], _, _, h => by cases h

theorem mk_flat_agg (k : IntKind) (es : List Int) : (es.map (SV.si k)).all SV.flat = true := by
  induction es with
  | nil => rfl
  | cons e es ih => simp [SV.flat, ih]

theorem GP.mk_flat (lit : Bool) (x : GP) : (x.mk lit).flat = true := by
  cases x with
  | w k e => cases lit <;> rfl
  | b x => cases lit <;> rfl
  | l k es => exact mk_flat_agg k es

theorem GP.mkT_flat (lit : Bool) (x : GP) : (x.mkT lit).flat = true := by
  cases x with
  | w k e => cases lit <;> rfl
  | b x => cases lit <;> rfl
  | l k es => exact mk_flat_agg k es

theorem GR.mk_flat (lit : Bool) (x : GR) : (x.mk lit).flat = true := by
  cases x with
  | p x => exact x.mk_flat lit
  | t l =>
    show (l.map (GP.mkT lit)).all TV.flat = true
    induction l with
    | nil => rfl
    | cons x l ih => simp [GP.mkT_flat, ih]

theorem GP.mk_R {lit : Bool} {x : GP} {v : Value} (h : (x.mk false).R (fun _ => 0) 0 v) : (x.mk lit).R (fun _ => 0) 0 v := by
  cases x with
  | w k e => cases lit <;> exact h
  | b x => cases lit <;> exact h
  | l k es => exact h

theorem GP.mkT_R {lit : Bool} {x : GP} {v : Value} (h : (x.mkT false).R (fun _ => 0) 0 v) : (x.mkT lit).R (fun _ => 0) 0 v := by
  cases x with
  | w k e => cases lit <;> exact h
  | b x => cases lit <;> exact h
  | l k es => exact h

theorem GR.mk_R {lit : Bool} {x : GR} {v : Value} (h : (x.mk false).R (fun _ => 0) 0 v) : (x.mk lit).R (fun _ => 0) 0 v := by
  cases x with
  | p x => exact GP.mk_R h
  | t l =>
    obtain ⟨vs, hv, hl⟩ := h
    refine ⟨vs, hv, ?_⟩
    clear hv
    induction l generalizing vs with
    | nil => exact hl
    | cons x l ih =>
      cases vs with
      | nil => exact hl.elim
      | cons v vs => exact ⟨GP.mkT_R hl.1, ih vs hl.2⟩

theorem tab_self {n : Nat} {es : List Int} (h : es.length = n) : tab n (fun i => es.getD i 0) = es := by
  subst h
  apply List.ext_getElem
  · simp [tab]
  · intro i h1 h2
    simp [tab, h2]

theorem tabs_self : ∀ {shs : List Sh} {ess : List (List Int)} (i : Nat) (fs : Nat → Nat → Int), okLs shs ess → (∀ j es, ess[j]? = some es → fs (i + j) = fun m => es.getD m 0) → tabs shs i fs = ess
  | [], [], _, _, _, _ => rfl
  | sh :: shs, es :: ess, i, fs, h, hf => by
    have h0 := hf 0 es rfl
    simp only [Nat.add_zero] at h0
    rw [tabs, h0, tab_self h.1.1, tabs_self (i + 1) fs h.2 fun j es' hj => by rw [← hf (j + 1) es' (by simpa using hj)]; congr 1; omega]
  | [], _ :: _, _, _, h, _ => h.elim
  | _ :: _, [], _, _, h, _ => h.elim

theorem mkArgs_flat : ∀ (shs : List Sh) (ess : List (List Int)), (mkArgs shs ess).all AV.flat = true
  | [], _ => rfl
  | _ :: _, [] => rfl
  | sh :: shs, es :: ess => by
    simp only [mkArgs, List.all_cons, Bool.and_eq_true]
    refine ⟨?_, mkArgs_flat shs ess⟩
    cases sh with
    | w k => rfl
    | l k n => exact mk_flat_agg k es
    | b => rfl

/-- THE WAY: a function of integers and rows of integers, by its abstract run at numbers that nobody knows. -/
theorem psok_g {C : Cfg} (hC : COk C) (hgl : C.gl = glFrom 0 C.gd) {g : Nat} {fn : Func} (hfn : FnOk C.P g fn) (hb : fn.body.isSome = true) {shs : List Sh} {conds : List (List Int) → List Prop} {T : List (List Int) → GR} (n : Nat)
    (H : ∀ fs : Nat → Nat → Int, okLs shs (tabs shs 0 fs) → allP (conds (tabs shs 0 fs)) → (callA C false n fn (mkArgs shs (tabs shs 0 fs)) (memG C.gd)).sat fun v _ => v.flat = true ∧ ∀ val, v.R (fun _ => 0) 0 val → ((T (tabs shs 0 fs)).mk false).R (fun _ => 0) 0 val) :
    PSOk C g (gsum shs conds T) := by
  refine psok_of hC hgl hfn hb (fun args mem r cs hF => ?_) (fun args mem r cs hF hp vals ha => ?_)
  · unfold gsum at hF
    split at hF
    · rename_i lit ess hpa
      cases hF
      exact ⟨(parse_spec hpa).1, GR.mk_flat _ _⟩
    · cases hF
  · unfold gsum at hF
    split at hF
    · rename_i lit ess hpa
      cases hF
      obtain ⟨h1, h2⟩ := (parse_spec hpa).2 vals ha
      have ht := tabs_self 0 (fun j m => (ess.getD j []).getD m 0) h2 (fun j es hj => by funext m; simp [hj])
      have := H (fun j m => (ess.getD j []).getD m 0)
      rw [ht] at this
      refine ⟨mkArgs shs ess, n, h1, mkArgs_flat _ _, ?_⟩
      have h3 := this h2 hp
      have mono : ∀ {K K' : AV → Mem → Prop} (o : Out), (∀ v m, K v m → K' v m) → o.sat K → o.sat K' := by
        intro K K' o hk
        induction o with
        | bad _ => exact id
        | need p o ih => exact fun h => ⟨h.1, ih h.2⟩
        | br c t f iht ihf => exact fun h => ⟨fun e => iht (h.1 e), fun e => ihf (h.2 e)⟩
        | both a b iha ihb => exact fun h => ⟨iha h.1, ihb h.2⟩
        | done v m => exact hk v m
      exact mono _ (fun v _ ⟨q1, q2⟩ => ⟨q1, fun val hv => GR.mk_R (q2 val hv)⟩) h3
    · cases hF

/-- The same, the arguments written out, the run told by an equation. -/
theorem psok_e {C : Cfg} (hC : COk C) {G : List (Nat × List SV)} (hG : C.gd = G) (hgl : C.gl = glFrom 0 G) {g : Nat} {fn : Func} (hfn : FnOk C.P g fn) (hb : fn.body.isSome = true) {shs : List Sh} {conds : List (List Int) → List Prop} {T : List (List Int) → GR} (n : Nat)
    (args : (Nat → Nat → Int) → List AV) (ha : ∀ fs, mkArgs shs (tabs shs 0 fs) = args fs)
    (H : ∀ fs : Nat → Nat → Int, okLs shs (tabs shs 0 fs) → allP (conds (tabs shs 0 fs)) → ∃ o, callA C false n fn (args fs) (memG G) = o ∧ o.sat fun v _ => v.flat = true ∧ ∀ val, v.R (fun _ => 0) 0 val → ((T (tabs shs 0 fs)).mk false).R (fun _ => 0) 0 val) :
    PSOk C g (gsum shs conds T) := by
  subst hG
  refine psok_g hC hgl hfn hb n fun fs h1 h2 => ?_
  obtain ⟨o, ho, hs⟩ := H fs h1 h2
  rw [ha fs, ho]
  exact hs

/-- Where the run comes to just what is said. -/
theorem sat_same {x : GR} {v : AV} (h : v = x.mk false) : v.flat = true ∧ ∀ val, v.R (fun _ => 0) 0 val → (x.mk false).R (fun _ => 0) 0 val := by subst h; exact ⟨GR.mk_flat _ _, fun _ h => h⟩

/-- Literals forgotten. -/
def SV.sym : SV → SV
  | .li k n => .si k n
  | .lb b => .sb b
  | s => s
def TV.sym : TV → TV
  | .one s => .one s.sym
  | .agg l => .agg (l.map SV.sym)
def AV.sym : AV → AV
  | .one s => .one s.sym
  | .agg l => .agg (l.map SV.sym)
  | .tup l => .tup (l.map TV.sym)
theorem SV.sym_R {env : Nat → Nat} {m : Nat} {s : SV} {v : Value} (h : s.R env m v) : s.sym.R env m v := by cases s <;> exact h
theorem all2_sym {α : Type} {f : α → α} {R : α → Value → Prop} (hf : ∀ a v, R a v → R (f a) v) : ∀ {l : List α} {vs : List Value}, All2 R l vs → All2 R (l.map f) vs
  | [], [], _ => trivial
  | _ :: _, _ :: _, h => ⟨hf _ _ h.1, all2_sym hf h.2⟩
  | [], _ :: _, h => h.elim
  | _ :: _, [], h => h.elim
theorem TV.sym_R {env : Nat → Nat} {m : Nat} {s : TV} {v : Value} (h : s.R env m v) : s.sym.R env m v := by
  cases s with
  | one s => exact SV.sym_R h
  | agg l => obtain ⟨vs, h1, h2⟩ := h; exact ⟨vs, h1, all2_sym (fun _ _ => SV.sym_R) h2⟩
theorem AV.sym_R {env : Nat → Nat} {m : Nat} {s : AV} {v : Value} (h : s.R env m v) : s.sym.R env m v := by
  cases s with
  | one s => exact SV.sym_R h
  | agg l => obtain ⟨vs, h1, h2⟩ := h; exact ⟨vs, h1, all2_sym (fun _ _ => SV.sym_R) h2⟩
  | tup l => obtain ⟨vs, h1, h2⟩ := h; exact ⟨vs, h1, all2_sym (fun _ _ => TV.sym_R) h2⟩
theorem sat_sym {x : GR} {v : AV} (h : v.sym = x.mk false) (hf : v.flat = true) : v.flat = true ∧ ∀ val, v.R (fun _ => 0) 0 val → (x.mk false).R (fun _ => 0) 0 val := ⟨hf, fun _ hv => h ▸ AV.sym_R hv⟩

theorem agg_li_si {k : IntKind} {es : List Int} {v : Value} (h : (AV.agg (es.map (.li k))).R (fun _ => 0) 0 v) : (AV.agg (es.map (.si k))).R (fun _ => 0) 0 v := by
  obtain ⟨vs, hv, hl⟩ := h
  refine ⟨vs, hv, ?_⟩
  clear hv
  induction es generalizing vs with
  | nil => exact hl
  | cons e es ih =>
    cases vs with
    | nil => exact hl.elim
    | cons v vs => exact ⟨hl.1, ih vs hl.2⟩

theorem flat_li {k : IntKind} {es : List Int} : (AV.agg (es.map (.li k))).flat = true := by
  show (es.map (SV.li k)).all SV.flat = true
  induction es with
  | nil => rfl
  | cons e es ih => simp [SV.flat, ih]

/-- Where the run is told whole. -/
theorem psok_run {C : Cfg} (hC : COk C) (hgl : C.gl = glFrom 0 C.gd) {g : Nat} {fn : Func} (hfn : FnOk C.P g fn) (hb : fn.body.isSome = true) {shs : List Sh} {T : List (List Int) → GR} (n : Nat)
    (H : ∀ fs : Nat → Nat → Int, callA C false n fn (mkArgs shs (tabs shs 0 fs)) (memG C.gd) = .done ((T (tabs shs 0 fs)).mk false) Mem.empty) :
    PSOk C g (gsum shs (fun _ => []) T) :=
  psok_g hC hgl hfn hb n fun fs _ _ => by rw [H fs]; exact ⟨GR.mk_flat _ _, fun _ h => h⟩

/-! ## A closure that reads one captured variable: a row of integers -/

/-- The numbers of the block that is pointed to. -/
def behind (mem : Mem) (k : IntKind) (n : Nat) (x : AV) : Option (List Int) :=
  match x with
  | .one (.ptr b o) => match Nat.beq o 0, (mem.get b).bind AB.get? with
    | true, some l => match intsOf k l with
      | some es => match Nat.beq es.length n with | true => some es | false => none
      | none => none
    | _, _ => none
  | _ => none

/-- A summary by a function of the numbers that come in, and of those that the captured variable holds. -/
def gsumP (shs : List Sh) (k : IntKind) (n : Nat) (T : List (List Int) → List Int → GR) : List AV → Mem → Option (List Prop × AV) := fun args mem =>
  match parse shs (args.take shs.length), args.drop shs.length with
  | some (lit, ess), [x] => match behind mem k n x with
    | some es => some ([], (T ess es).mk lit)
    | none => none
  | _, _ => none

def memP (gd : List (Nat × List SV)) (k : IntKind) (es : List Int) : Mem := ⟨gd.length + 1, (memG gd).t.set gd.length (.ro (es.map (.si k)))⟩

theorem MR.startP {C : Cfg} {B : Nat → Prop} {w0 w : World} {env : Nat → Nat} {mem : Mem} (hgl : C.gl = glFrom 0 C.gd) (hm : MR C B w0 env mem w) {k : IntKind} {es : List Int} {b : Nat} {l : List SV} (hb : (mem.get b).bind AB.get? = some l) (he : intsOf k l = some es) :
    MR C (· < w.heap.size) w (envPush (envG C.gd) C.gd.length (env b)) (memP C.gd k es) w := by
  have h0 := MR.start (C := C) hgl hm.gd hm.base
  obtain ⟨ab, hab, hl⟩ := Option.bind_eq_some_iff.1 hb
  obtain ⟨vs, rest, ty, fr, hh, hR⟩ := block_of (hm.blk b ab hab) hl
  obtain ⟨h1, h2⟩ := intsOf_R he hR
  have hx : Ext (envG C.gd) (memG C.gd).n (envPush (envG C.gd) C.gd.length (env b)) (C.gd.length + 1) := Ext.push _ _ _
  have hold : ∀ i ab, i ≠ C.gd.length → (memP C.gd k es).get i = some ab → (memG C.gd).get i = some ab := fun i ab hi hg => by
    simp only [Mem.get, memP] at hg ⊢
    rw [Tr.get_set_ne _ _ _ _ (Ne.symm hi)] at hg
    exact hg
  have hnew : ∀ ab, (memP C.gd k es).get C.gd.length = some ab → ab = .ro (es.map (.si k)) := fun ab hg => Tr.get_set_eq _ _ _ _ hg
  refine ⟨Keep.refl _ _, fun _ hb => hb, fun i ab hi => ?_, fun i ab hi => ?_, fun i j a c hi hj _ ha _ => ?_, fun p hp => ?_, h0.gd⟩
  · show i < C.gd.length + 1
    by_cases hn : i = C.gd.length
    · omega
    · have : i < C.gd.length := h0.lt i ab (hold i ab hn hi); omega
  · by_cases hn : i = C.gd.length
    · subst hn
      rw [hnew ab hi]
      refine ⟨vs, rest, ty, fr, ?_, ?_, ?_⟩
      · unfold envPush; rw [if_pos rfl]; exact hh
      · rw [h1]; exact All2.both _ _ es fun e he => ⟨h2 e he, rfl⟩
      · unfold envPush; rw [if_pos rfl]; exact lt_of_heap hh
    · have hg := hold i ab hn hi
      have he : envPush (envG C.gd) C.gd.length (env b) i = envG C.gd i := by unfold envPush; rw [if_neg hn]
      rw [he]
      exact AB.R_ext hx (h0.blk i ab hg)
  · exfalso
    by_cases hn : i = C.gd.length
    · subst hn; rw [hnew a hi] at ha; cases ha
    · have hg := hold i a hn hi
      rcases ofList_get _ _ _ _ _ hg with h' | ⟨_, h'⟩
      · rw [Tr.get_mk] at h'; cases h'
      · simp only [Nat.sub_zero, List.getElem?_map] at h'
        obtain ⟨p, hp, rfl⟩ := Option.map_eq_some_iff.1 h'
        cases ha
  · obtain ⟨q1, q2⟩ := h0.gl p hp
    have q2' : p.2 < C.gd.length := q2
    exact ⟨by unfold envPush; rw [if_neg (by omega)]; exact q1, Nat.lt_succ_of_lt q2'⟩

theorem behind_spec {mem : Mem} {k : IntKind} {n : Nat} {x : AV} {es : List Int} (h : behind mem k n x = some es) : ∃ b l, x = .one (.ptr b 0) ∧ (mem.get b).bind AB.get? = some l ∧ intsOf k l = some es ∧ es.length = n := by
  unfold behind at h
  split at h
  · rename_i b o
    split at h
    · rename_i l ho hl
      split at h
      · rename_i es' he
        split at h
        · rename_i hn
          cases h
          exact ⟨b, l, by rw [Nat.eq_of_beq_eq_true ho], hl, he, Nat.eq_of_beq_eq_true hn⟩
        · cases h
      · cases h
    · cases h
  · cases h

/-- A closure's summary, by its abstract run at numbers that nobody knows. -/
theorem psok_p {C : Cfg} (hC : COk C) {G : List (Nat × List SV)} (hG : C.gd = G) (hgl : C.gl = glFrom 0 G) {g : Nat} {fn : Func} (hfn : FnOk C.P g fn) (hb : fn.body.isSome = true) {shs : List Sh} {k : IntKind} {N : Nat} {T : List (List Int) → List Int → GR} (n : Nat)
    (args : (Nat → Nat → Int) → List AV) (ha : ∀ fs, mkArgs shs (tabs shs 0 fs) ++ [.one (.ptr G.length 0)] = args fs)
    (H : ∀ (fs : Nat → Nat → Int) (f : Nat → Int), okLs shs (tabs shs 0 fs) → (∀ e ∈ tab N f, okI k e) → ∃ o, callA C false n fn (args fs) (memP G k (tab N f)) = o ∧ o.sat fun v _ => v.flat = true ∧ ∀ val, v.R (fun _ => 0) 0 val → ((T (tabs shs 0 fs) (tab N f)).mk false).R (fun _ => 0) 0 val) :
    PSOk C g (gsumP shs k N T) := by
  subst hG
  refine ⟨⟨fn, hfn, hb⟩, fun xs mem r conds hF hp B w0 w env vals hm hv => ?_⟩
  unfold gsumP at hF
  split at hF
  · rename_i lit ess x hpa hdr
    split at hF
    · rename_i es hbe
      cases hF
      obtain ⟨b, l, rfl, hl, he, hlen⟩ := behind_spec hbe
      have hsplit : xs = xs.take shs.length ++ [.one (.ptr b 0)] := by rw [← hdr, List.take_append_drop]
      obtain ⟨p1, p2⟩ := parse_spec hpa
      have hv1 := (hv.take shs.length)
      have hv2 := (hv.drop shs.length)
      rw [hdr] at hv2
      obtain ⟨vp, hvp⟩ : ∃ vp, vals.drop shs.length = [vp] := by
        have := hv2.length
        match hq : vals.drop shs.length, this with
        | [vp], _ => exact ⟨vp, rfl⟩
      rw [hvp] at hv2
      have hvals : vals = vals.take shs.length ++ [vp] := by rw [← hvp, List.take_append_drop]
      have hptr : vp = .pointer (some ⟨env b, 0, none⟩) := hv2.1.2
      obtain ⟨h1, h2⟩ := p2 _ (all2_flatA p1 hv1)
      have ht := tabs_self 0 (fun j m => (ess.getD j []).getD m 0) h2 (fun j es hj => by funext m; simp [hj])
      have hte : tab N (fun i => es.getD i 0) = es := tab_self hlen
      obtain ⟨ab, hab, hl'⟩ := Option.bind_eq_some_iff.1 hl
      obtain ⟨us, rest, ty, fr, hh, hR⟩ := block_of (hm.blk b ab hab) hl'
      have hok := (intsOf_R he hR).2
      obtain ⟨o, ho, hs⟩ := H (fun j m => (ess.getD j []).getD m 0) (fun i => es.getD i 0) (by rw [ht]; exact h2) (by rw [hte]; exact hok)
      rw [← ha, ht, hte] at ho
      rw [ht, hte] at hs
      have hstart := MR.startP (C := C) hgl hm hl he
      have hargs : All2 (AV.R (envPush (envG C.gd) C.gd.length (env b)) (memP C.gd k es).n) (mkArgs shs ess ++ [.one (.ptr C.gd.length 0)]) vals := by
        rw [hvals]
        refine (all2_flatA (mkArgs_flat _ _) h1).append ⟨⟨Nat.lt_succ_self _, ?_⟩, trivial⟩
        rw [hptr]
        simp only [SV.conc, envPush, if_true]
      refine (callA_calls hC hfn (by rw [ho]; exact hs) hstart hargs).mono ?_
      rintro e w' ⟨v, hev, r', mem', env', ⟨hf', hK⟩, hm', hx, hRR⟩
      exact ⟨⟨v, hev, AV.flat_R (GR.mk_flat _ _) (GR.mk_R (hK v (AV.flat_R hf' hRR)))⟩, hm'.below.below⟩
    · cases hF
  · cases hF

end Go.Ax
