/- From a law's abstract run to its statement: the frame, for whatever arguments. -/
import Derived.Test.YtljchidgchjoeaaAx12
import Derived.Test.YtljchidgchjoeaaLo
import Derived.ProofKit
import Derived.OpenShut
import Derived.Lib.LaidTab
import Derived.LaidMore
import Derived.Stop.LaidErr
import Derived.Stop.Joined
namespace Go.Ax
open Go Go.RowKit Go.ChangeShapes Go.WideShapes Go.ChangeAt

/-! ## What the statement asks behind the call -/

theorem trodAll_below {H : Type} {enc : TypeId × Value → H} {P : Program} (hl : laidOutB P = true) {W W' : World} (hb : Below W.heap.size W W') :
    ∀ {ts : List TypeId} {vs : List Value} {ds : List (DataW H)} {ps : List MemPlace}, (ts.all fun t => P.readableRec t && decide (t < P.types.size)) = true →
      DataW.TrodAll enc P W 0 (fun _ => true) true ts vs ds ps → (∀ x ∈ ps, x.block < W.heap.size) → DataW.TrodAll enc P W' 0 (fun b => decide (b < W.heap.size)) true ts vs ds ps
  | [], [], [], _, _, h, _ => h
  | t :: ts, v :: vs, d :: ds, ps, hr, h, hlt => by
    simp only [List.all_cons, Bool.and_eq_true, decide_eq_true_eq] at hr
    obtain ⟨p, q, h1, h2, rfl⟩ := h
    exact ⟨p, q, Below.trod hl hr.1.1 hr.1.2 h1 hb (fun x hx => hlt x (List.mem_append_left _ hx)), trodAll_below hl hb hr.2 h2 (fun x hx => hlt x (List.mem_append_right _ hx)), rfl⟩
  | [], [], _ :: _, _, _, h, _ => h.elim
  | [], _ :: _, _, _, _, h, _ => by cases h
  | _ :: _, [], _, _, _, h, _ => by cases h
  | _ :: _, _ :: _, [], _, _, h, _ => by cases h

theorem law_post {H : Type} {enc : TypeId × Value → H} {P : Program} {fn : Func} {s : ChangeSpec} {bt : TypeId} (hv : s.vars = []) (hl : laidOutB P = true) (hp : (fn.params.toList.all fun t => P.readableRec t && decide (t < P.types.size)) = true)
    (hres : fn.resultTypes = #[bt]) (hbt : P.underlying bt = some .bool) (hfn : ∀ ds : List (DataW H), ds.length = fn.params.toList.length → s.fn H ds = { results := [.lit (.bool true)], args := ds })
    {W W' : World} {args : Array Value} {ds gs : List (DataW H)} {before : List MemPlace} (hW : DataW.Whole enc P fn.params.toList s.vars false W args.toList ds gs before) (hb : Below W.heap.size W W') :
    s.post enc P fn false true false false W args (.bool true) W' := by
  have hW' := hW
  have hlt := hW.lt
  obtain ⟨p, q, hA, hV, rfl, _, _⟩ := hW
  rw [hv] at hV
  obtain ⟨rfl, rfl⟩ := trodVars_none hV
  have hlen : ds.length = fn.params.toList.length := by
    have key : ∀ {ts : List TypeId} {vs : List Value} {ds : List (DataW H)} {ps : List MemPlace}, DataW.TrodAll enc P W 0 (fun _ => true) true ts vs ds ps → ds.length = ts.length := by
      intro ts
      induction ts with
      | nil => intro vs ds ps h; cases vs <;> cases ds <;> first | rfl | exact h.elim | cases h
      | cons t ts ih =>
        intro vs ds ps h
        cases vs with
        | nil => cases ds <;> first | exact h.elim | cases h
        | cons v vs =>
          cases ds with
          | nil => exact h.elim
          | cons d ds => obtain ⟨p, q, _, h2, _⟩ := h; simp [ih h2]
    exact key hA
  have hf := hfn ds hlen
  refine ⟨ds, [], p ++ [], [], p, [], hW', ?_, ?_, ?_, Below.frame hb _, fun h => by cases h⟩
  · rw [List.append_nil, hf, hres]
    exact trodAll_mk1 (shut_bool hbt true)
  · rw [List.append_nil, hf]
    exact trodAll_below hl hb hp hA (fun x hx => hlt x (List.mem_append_left _ hx))
  · rw [List.append_nil, hf, hv]
    rfl

/-! ## What comes in -/

def ofKind (P : Program) (k : IntKind) (x : TypeId) : Bool := match P.underlying x with | some (.int k') => kEq k k' | _ => false

/-- The shape of a row all of whose cells are integers of one kind. -/
def rowSh (P : Program) (t : TypeId) : Option Sh :=
  match P.cellTypes P.depth t with
  | some (u :: us) => match P.underlying u with
    | some (.int k) => match us.all (ofKind P k) with
      | true => some (.l k (P.cellsOf t))
      | false => none
    | _ => none
  | _ => none

/-- The shape of a type of integers. -/
def shOf (P : Program) (t : TypeId) : Option Sh :=
  match P.underlying t with
  | some (.int k) => some (.w k)
  | some .bool => some .b
  | some (.array _ _) => rowSh P t
  | some (.struct _) => rowSh P t
  | _ => none

theorem okI_has {k : IntKind} {n : Int} (h : k.has n) : okI k n := h

theorem cell_int {P : Program} {W : World} {r : Reach} {base : Nat} {u : TypeId} {k : IntKind} {v : Value} (hu : P.underlying u = some (.int k)) (h : Cell.okWide P W r base u v) : ∃ n, v = Value.int k n ∧ okI k n := by
  unfold Cell.okWide at h
  rw [hu] at h
  cases v <;> simp [Cell.ok, hu] at h
  rename_i k' n
  obtain ⟨rfl, h2⟩ := h
  exact ⟨n, rfl, h2⟩

theorem shOf_R {P : Program} {W : World} {r : Reach} {base : Nat} {t : TypeId} {sh : Sh} {v : Value} (hs : shOf P t = some sh) (h : Value.okWide P W r base t v) :
    ∃ es, okL sh es ∧ (mkArg sh es).R (fun _ => 0) 0 v := by
  unfold shOf at hs
  have row : ∀ cs : Array Value, v = .agg cs → cs.size = P.cellsOf t → Row.okWide P W r base t cs → rowSh P t = some sh → ∃ es, okL sh es ∧ (mkArg sh es).R (fun _ => 0) 0 v := by
    intro cs hv hsz hrow hs
    obtain ⟨ts, hts, _, hcell⟩ := hrow
    unfold rowSh at hs
    rw [hts] at hs
    split at hs
    · rename_i u us hts'
      obtain rfl := Option.some.inj hts'
      split at hs
      · rename_i k hk
        split at hs
        · rename_i hall
          cases hs
          have hint : ∀ (i : Nat) (v : Value), cs[i]? = some v → ∃ n, v = Value.int k n ∧ okI k n := fun i v hi => by
            obtain ⟨x, hx, hc⟩ := hcell i v hi
            have hux : P.underlying x = some (.int k) := by
              rcases List.mem_cons.1 (List.mem_of_getElem? hx) with rfl | hx'
              · exact hk
              · have := List.all_eq_true.1 hall x hx'
                unfold ofKind at this
                split at this
                · rename_i k' hk'
                  rw [hk', kEq_of this]
                · cases this
            exact cell_int hux hc
          have hlist : ∀ l : List Value, (∀ (i : Nat) (v : Value), l[i]? = some v → ∃ n, v = Value.int k n ∧ okI k n) → ∃ es : List Int, l = es.map (Value.int k) ∧ ∀ e ∈ es, okI k e := by
            intro l
            induction l with
            | nil => intro _; exact ⟨[], rfl, by simp⟩
            | cons a l ih =>
              intro h
              obtain ⟨n, rfl, hn⟩ := h 0 a rfl
              obtain ⟨es, rfl, he⟩ := ih fun i v hi => h (i + 1) v (by simpa using hi)
              exact ⟨n :: es, rfl, by simpa using ⟨hn, he⟩⟩
          obtain ⟨es, he, hok⟩ := hlist cs.toList fun i v hi => hint i v (by simpa using hi)
          refine ⟨es, ⟨?_, hok⟩, cs.toList, by simp [hv], ?_⟩
          · have : es.length = cs.size := by rw [← Array.length_toList, he]; simp
            exact this.trans hsz
          · rw [he]
            exact All2.both _ _ es fun e he => ⟨hok e he, rfl⟩
        · cases hs
      · cases hs
    · cases hs
  unfold Value.okWide at h
  cases hu : P.underlying t with
  | none => rw [hu] at hs; cases hs
  | some d =>
    rw [hu] at h hs
    cases d with
    | int k =>
      cases hs
      obtain ⟨n, rfl, hn⟩ := cell_int hu h
      exact ⟨[n], ⟨rfl, fun e he => by rw [List.mem_singleton.1 he]; exact hn⟩, hn, rfl⟩
    | bool =>
      cases hs
      obtain ⟨c, rfl⟩ : ∃ c, v = Value.bool c := by
        simp only at h
        unfold Cell.okWide at h
        rw [hu] at h
        cases v <;> simp [Cell.ok, hu] at h
        exact ⟨_, rfl⟩
      exact ⟨[iteI c 1 0], okb c, by cases c <;> exact ⟨trivial, rfl⟩⟩
    | array n e => obtain ⟨cs, h1, h2, h3⟩ := h; exact row cs h1 h2 h3 hs
    | struct fs => obtain ⟨cs, h1, h2, h3⟩ := h; exact row cs h1 h2 h3 hs
    | _ => cases hs

def shsOf (P : Program) : List TypeId → Option (List Sh)
  | [] => some []
  | t :: ts => match shOf P t, shsOf P ts with
    | some s, some l => some (s :: l)
    | _, _ => none

theorem shsOf_R {P : Program} {W : World} {r : Reach} {base : Nat} : ∀ {ts : List TypeId} {shs : List Sh} {vs : List Value}, shsOf P ts = some shs → ts.length = vs.length →
    (∀ (j : Nat) (t : TypeId) (v : Value), ts[j]? = some t → vs[j]? = some v → Value.okWide P W r base t v) → ∃ ess, okLs shs ess ∧ All2 (AV.R (fun _ => 0) 0) (mkArgs shs ess) vs
  | [], shs, [], h, _, _ => by cases h; exact ⟨[], trivial, trivial⟩
  | t :: ts, shs, v :: vs, h, hl, hv => by
    simp only [shsOf] at h
    split at h
    · rename_i s l h1 h2
      cases h
      obtain ⟨es, p1, p2⟩ := shOf_R h1 (hv 0 t v rfl rfl)
      obtain ⟨ess, q1, q2⟩ := shsOf_R h2 (by simpa using hl) fun j t v ht hv' => hv (j + 1) t v (by simpa using ht) (by simpa using hv')
      exact ⟨es :: ess, ⟨p1, q1⟩, p2, q2⟩
    · cases h
  | [], _, _ :: _, _, hl, _ => by cases hl
  | _ :: _, _, [], _, hl, _ => by cases hl

/-- A law's contract, off its abstract run. -/
theorem law_calls {C : Cfg} (hC : COk C) (hgl : C.gl = glFrom 0 C.gd) {g : Nat} {fn : Func} (hfn : FnOk C.P g fn) {shs : List Sh} (hsh : shsOf C.P fn.params.toList = some shs) (n : Nat)
    (hrun : ∀ fs : Nat → Nat → Int, okLs shs (tabs shs 0 fs) → (callA C false n fn (mkArgs shs (tabs shs 0 fs)) (memG C.gd)).sat fun v _ => v = .one (.sb true) ∨ v = .one (.lb true))
    {W : World} {base : Nat} {args : Array Value} (hsz : fn.params.toList.length = args.toList.length) (hval : ∀ (j : Nat) t v, fn.params[j]? = some t → args[j]? = some v → Value.okWide C.P W .any base t v) (hgd : GD C.gd W.heap.size W) :
    CallsL C.J g args W fun e w' => e = .returned (.bool true) ∧ Below W.heap.size W w' := by
  obtain ⟨ess, h1, h2⟩ := shsOf_R (W := W) (r := .any) (base := base) hsh hsz fun j t v ht hv => hval j t v (by simpa using ht) (by simpa using hv)
  have ht := tabs_self 0 (fun j m => (ess.getD j []).getD m 0) h1 (fun j es hj => by funext m; simp [hj])
  have hr := hrun (fun j m => (ess.getD j []).getD m 0)
  rw [ht] at hr
  have hs := MR.start (C := C) hgl hgd (fun _ hb => hb)
  have := callA_ends hC hfn (hr h1) hs (all2_flatA (mkArgs_flat _ _) h2)
  simp only [Array.toArray_toList] at this
  refine this.mono ?_
  rintro e w' ⟨v, he, r', mem', env', hK, hm', hx, hR⟩
  refine ⟨?_, hm'.below.below⟩
  rcases hK with rfl | rfl
  · rw [he, hR.2]; rfl
  · rw [he, hR.2]; rfl

/-- The same, from arguments that are told otherwise (a number as a literal). -/
theorem law_x {C : Cfg} (hC : COk C) {G : List (Nat × List SV)} (hG : C.gd = G) (hgl : C.gl = glFrom 0 G) {g : Nat} {fn : Func} (hfn : FnOk C.P g fn) {shs : List Sh} (hsh : shsOf C.P fn.params.toList = some shs)
    (hrun : ∀ fs : Nat → Nat → Int, okLs shs (tabs shs 0 fs) → ∃ (args' : List AV) (n : Nat) (o : Out), (∀ env m vals, All2 (AV.R env m) (mkArgs shs (tabs shs 0 fs)) vals → All2 (AV.R env m) args' vals) ∧
      callA C false n fn args' (memG G) = o ∧ o.sat fun v _ => v = .one (.sb true) ∨ v = .one (.lb true))
    {W : World} {base : Nat} {args : Array Value} (hsz : fn.params.toList.length = args.toList.length) (hval : ∀ (j : Nat) t v, fn.params[j]? = some t → args[j]? = some v → Value.okWide C.P W .any base t v) (hgd : GD G W.heap.size W) :
    CallsL C.J g args W fun e w' => e = .returned (.bool true) ∧ Below W.heap.size W w' := by
  subst hG
  obtain ⟨ess, h1, h2⟩ := shsOf_R (W := W) (r := .any) (base := base) hsh hsz fun j t v ht hv => hval j t v (by simpa using ht) (by simpa using hv)
  have ht := tabs_self 0 (fun j m => (ess.getD j []).getD m 0) h1 (fun j es hj => by funext m; simp [hj])
  have hr := hrun (fun j m => (ess.getD j []).getD m 0)
  rw [ht] at hr
  obtain ⟨args', n, o, ha, rfl, hsat⟩ := hr h1
  have hs := MR.start (C := C) hgl hgd (fun _ hb => hb)
  have := callA_ends hC hfn hsat hs (ha _ _ _ (all2_flatA (mkArgs_flat _ _) h2))
  simp only [Array.toArray_toList] at this
  refine this.mono ?_
  rintro e w' ⟨v, he, r', mem', env', hK, hm', hx, hR⟩
  refine ⟨?_, hm'.below.below⟩
  rcases hK with rfl | rfl
  · rw [he, hR.2]; rfl
  · rw [he, hR.2]; rfl

/-- The same, the arguments written out, the run told by an equation. -/
theorem law_e {C : Cfg} (hC : COk C) {G : List (Nat × List SV)} (hG : C.gd = G) (hgl : C.gl = glFrom 0 G) {g : Nat} {fn : Func} (hfn : FnOk C.P g fn) {shs : List Sh} (hsh : shsOf C.P fn.params.toList = some shs) (n : Nat)
    (args' : (Nat → Nat → Int) → List AV) (ha : ∀ fs, mkArgs shs (tabs shs 0 fs) = args' fs)
    (hrun : ∀ fs : Nat → Nat → Int, okLs shs (tabs shs 0 fs) → ∃ o, callA C false n fn (args' fs) (memG G) = o ∧ o.sat fun v _ => v = .one (.sb true) ∨ v = .one (.lb true))
    {W : World} {base : Nat} {args : Array Value} (hsz : fn.params.toList.length = args.toList.length) (hval : ∀ (j : Nat) t v, fn.params[j]? = some t → args[j]? = some v → Value.okWide C.P W .any base t v) (hgd : GD G W.heap.size W) :
    CallsL C.J g args W fun e w' => e = .returned (.bool true) ∧ Below W.heap.size W w' := by
  subst hG
  refine law_calls hC hgl hfn hsh n (fun fs h => ?_) hsz hval hgd
  obtain ⟨o, ho, hs⟩ := hrun fs h
  rw [ha fs, ho]
  exact hs

/-- A law without package-level variables. -/
theorem law_lifted {K : Checked} {g : Nat} {fn : Func} {s : ChangeSpec} {bt : TypeId} (own : ownKnob K.prog.godebug = none) (noInit : K.prog.inits.idxOf? g = none) (hfn : K.prog.funcs[g]? = some fn)
    (hl : laidOutB K.prog = true) (hp : (fn.params.toList.all fun t => K.prog.readableRec t && decide (t < K.prog.types.size)) = true) (hres : fn.resultTypes = #[bt]) (hbt : K.prog.underlying bt = some .bool) (hv : s.vars = [])
    (hspec : ∀ (H : Type) (ds : List (DataW H)), ds.length = fn.params.toList.length → s.fn H ds = { results := [.lit (.bool true)], args := ds })
    (contract : ∀ (W : World) (base : Nat) (args : Array Value), fn.params.toList.length = args.toList.length → (∀ (j : Nat) t v, fn.params[j]? = some t → args[j]? = some v → Value.okWide K.prog W .any base t v) →
      CallsL (loneJ K.prog) g args W fun e w' => e = .returned (.bool true) ∧ Below W.heap.size W w')
    (os : Os) (started : os.Started) (H : Type) (enc : TypeId × Value → H)
    (witness : ∃ (w : World) (tape : Tape) (i : Input), w.os = os ∧ (w.forCall tape i).Shaped K.prog ∧ i.vars = [] ∧ Input.okWide K.prog (w.forCall tape i) .any w.heap.size g i ∧
      s.pre6 enc K.prog fn [] false (w.forCall tape i).memory i.args ∧ ({} : Assume).holds K.prog (lone (Frame.enter K.prog g i.args .normal) [] (w.forCall tape i))) :
    ReturnsInHanded {} K os g .any (s.pre6 enc K.prog fn [] false) (s.post enc K.prog fn false true false false) := by
  refine returnsInHanded_of_change (C := K) own started noInit hfn witness ?_
  intro W base args ds gs before hval hW _ _
  have hsz : fn.params.toList.length = args.toList.length := by
    obtain ⟨p, q, hA, _⟩ := hW
    have key : ∀ {ts : List TypeId} {vs : List Value} {ds : List (DataW H)} {ps : List MemPlace}, DataW.TrodAll enc K.prog W 0 (fun _ => true) true ts vs ds ps → ts.length = vs.length := by
      intro ts
      induction ts with
      | nil => intro vs ds ps h; cases vs <;> cases ds <;> first | rfl | exact h.elim | cases h
      | cons t ts ih =>
        intro vs ds ps h
        cases vs with
        | nil => cases ds <;> first | exact h.elim | cases h
        | cons v vs =>
          cases ds with
          | nil => exact h.elim
          | cons d ds => obtain ⟨p, q, _, h2, _⟩ := h; simp [ih h2]
    exact key hA
  refine (contract W base args hsz hval).alone.mono ?_
  rintro e W' ⟨rfl, hb⟩
  exact ⟨_, rfl, law_post hv hl hp hres hbt (hspec H) hW hb⟩

/-- A law whose package-level variables are listed. -/
theorem law_lifted_laid {K : Checked} {g : Nat} {fn : Func} {s : ChangeSpec} {bt : TypeId} {laid : List (String × DataW Unit)} (own : ownKnob K.prog.godebug = none) (noInit : K.prog.inits.idxOf? g = none) (hfn : K.prog.funcs[g]? = some fn)
    (hl : laidOutB K.prog = true) (hp : (fn.params.toList.all fun t => K.prog.readableRec t && decide (t < K.prog.types.size)) = true) (hres : fn.resultTypes = #[bt]) (hbt : K.prog.underlying bt = some .bool) (hv : s.vars = [])
    (hspec : ∀ (H : Type) (ds : List (DataW H)), ds.length = fn.params.toList.length → s.fn H ds = { results := [.lit (.bool true)], args := ds })
    (contract : ∀ (W : World) (base : Nat) (args : Array Value), fn.params.toList.length = args.toList.length → (∀ (j : Nat) t v, fn.params[j]? = some t → args[j]? = some v → Value.okWide K.prog W .any base t v) → laidMetH K.prog laid W →
      CallsL (loneJ K.prog) g args W fun e w' => e = .returned (.bool true) ∧ Below W.heap.size W w')
    (os : Os) (started : os.Started) (H : Type) (enc : TypeId × Value → H)
    (witness : ∃ (w : World) (tape : Tape) (i : Input), w.os = os ∧ (w.forCall tape i).Shaped K.prog ∧ i.vars = [] ∧ Input.okWide K.prog (w.forCall tape i) .any w.heap.size g i ∧
      ((s.pre enc K.prog fn [] false (w.forCall tape i).memory i.args ∧ laidMetH K.prog laid (w.forCall tape i).memory) ∧ sizedMet enc K.prog fn (OpenSpec.ofChange s) false (w.forCall tape i).memory i.args) ∧ ({} : Assume).holds K.prog (lone (Frame.enter K.prog g i.args .normal) [] (w.forCall tape i))) :
    ReturnsInHanded {} K os g .any (fun w args => (s.pre enc K.prog fn [] false w args ∧ laidMetH K.prog laid w) ∧ sizedMet enc K.prog fn (OpenSpec.ofChange s) false w args) (s.post enc K.prog fn false true false false) := by
  refine returnsInHanded_of_change_and (C := K) (X := fun w _ => laidMetH K.prog laid w) (fun _ _ _ hh h => laidMetH.of_heap hh h) own started noInit hfn witness ?_
  intro W base args ds gs before hval hW _ _ hL _
  have hsz : fn.params.toList.length = args.toList.length := by
    obtain ⟨p, q, hA, _⟩ := hW
    have key : ∀ {ts : List TypeId} {vs : List Value} {ds : List (DataW H)} {ps : List MemPlace}, DataW.TrodAll enc K.prog W 0 (fun _ => true) true ts vs ds ps → ts.length = vs.length := by
      intro ts
      induction ts with
      | nil => intro vs ds ps h; cases vs <;> cases ds <;> first | rfl | exact h.elim | cases h
      | cons t ts ih =>
        intro vs ds ps h
        cases vs with
        | nil => cases ds <;> first | exact h.elim | cases h
        | cons v vs =>
          cases ds with
          | nil => exact h.elim
          | cons d ds => obtain ⟨p, q, _, h2, _⟩ := h; simp [ih h2]
    exact key hA
  refine (contract W base args hsz hval hL).alone.mono ?_
  rintro e W' ⟨rfl, hb⟩
  exact ⟨_, rfl, law_post hv hl hp hres hbt (hspec H) hW hb⟩

/-- A listed table, as the executor knows it. -/
theorem gd_of_tab {P : Program} {W : World} {name : String} {k : IntKind} {zs : List Int} {g : Nat} (hg : P.globalNamed name = some g) (h : Lib.TabIs P W name k zs) (hz : ∀ z ∈ zs, okI k z) :
    g < W.heap.size ∧ ∃ (vs rest : List Value) (t : TypeId) (fr : Nat × Nat), W.heap[g]? = some (.cells (vs ++ rest).toArray t fr) ∧ All2 (SV.R (fun _ => 0) 0) (zs.map (SV.li k)) vs := by
  unfold Lib.TabIs World.var? at h
  rw [hg] at h
  simp only [Option.bind_some] at h
  split at h
  · rename_i cs t fr hc
    refine ⟨(Array.getElem?_eq_some_iff.1 hc).1, zs.map (Value.int k), [], t, fr, ?_, All2.both _ _ zs fun z hz' => ⟨hz z hz', rfl⟩⟩
    rw [hc, Option.some.inj h, List.append_nil]
  · cases h

end Go.Ax
