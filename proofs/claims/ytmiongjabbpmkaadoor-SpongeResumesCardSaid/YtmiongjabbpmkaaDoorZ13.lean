import Derived.Test.YtmiongjabbpmkaaDoorZ12
import Derived.Conc.LeavingOf
import Derived.Conc.Beside
import Derived.Conc.Token
import Derived.Conc.CrowdSel
import Derived.Test.YtmiongjabbpmkaaDoorChecked
import Derived.Conc.Walk
import Derived.Conc.DeferLaws
import Derived.Conc.SmallLaws
import Derived.Conc.Own2
set_option linter.unusedSimpArgs false
set_option linter.unusedVariables false
namespace Go.Ax
open Go Go.RowKit Go.Conc
open Go.ConcN (sumTo upd sumTo_upd upd_ne upd_same)
structure Cf where
  gs : Array Goroutine
  w : World
  sl : Option (Nat × Nat)
  t : Trace
def Cf.m (c : Cf) : Machine := crowd c.gs c.w c.sl
def Runs (P : Program) (c c' : Cf) : Prop := ∃ N, runNT P N c.m c.t = (.next c'.m, c'.t)
section
variable {P : Program} {c c' c'' : Cf}
theorem Runs.refl : Runs P c c := ⟨0, rfl⟩
theorem Runs.trans (h : Runs P c c') (h' : Runs P c' c'') : Runs P c c'' := by
  obtain ⟨N, h⟩ := h
  obtain ⟨K, h'⟩ := h'
  exact ⟨N + K, Go.Conc.runNT_then h h'⟩
theorem Runs.one {ops : Array MemOp} (h : stepT P c.m = (.next c'.m, ops)) (ht : c'.t = c.t ++ ops) : Runs P c c' :=
  ⟨1, by rw [runNT, h, ht]; rfl⟩
end
structure Lv (P : Program) (act : Nat → Prop) (t : Trace) (gs : Array Goroutine) (q : Nat → Nat) : Prop where
  old : ∀ i g, ¬ act i → gs[i]? = some g → QuitsD P (q i) (Deaf t i) g
  above : ∀ j, gs.size ≤ j → Deaf t j = 0
theorem ofEvents_g (g : Nat) (fn : FuncId) (pos : String) (es : Array Event) : ∀ op ∈ MemOp.ofEvents g fn pos es, op.g = g := fun op hop => by
  rw [ofEvents_eq] at hop
  obtain ⟨e, _, rfl⟩ := Array.mem_map.1 hop
  rfl
section
variable {P : Program} {act : Nat → Prop}
theorem woken_stays {g g' o : Goroutine} {w : World} (h : o.again w = o) : woken P g g' w o = o := by
  unfold woken
  split
  · exact h
  · rfl
theorem again_run {g : Goroutine} (w : World) (h : g.status = .running) : g.again w = g := again_running w (.inl h)
theorem Lv.own {t : Trace} {gs : Array Goroutine} {q : Nat → Nat} (h : Lv P act t gs q) {i : Nat} {g g' : Goroutine} {w' : World} (ha : act i) (hi : i < gs.size) (u : Trace) (hu : ∀ op ∈ u, op.g = i) :
    Lv P act (t ++ u) ((gs.map (woken P g g' w')).setIfInBounds i g') q := by
  refine ⟨fun j x hj hx => ?_, fun j hj => ?_⟩
  · have hne : i ≠ j := fun e => hj (e ▸ ha)
    rw [Array.getElem?_setIfInBounds_ne hne, Array.getElem?_map] at hx
    obtain ⟨y, hy, rfl⟩ := Option.map_eq_some_iff.1 hx
    have hq := h.old j y hj hy
    rw [woken_quitsD hq, Deaf_other t hne u hu]
    exact hq
  · simp only [Array.size_setIfInBounds, Array.size_map] at hj
    rw [Deaf_other t (g' := i) (by omega) u hu]
    exact h.above j hj
theorem turn {TP : Trace → Prop} (h00 : act 0) (hmute : ∀ t g fn pos es, ¬ act g → (∀ e ∈ es, Event.mute e = true) → TP t → TP (t ++ MemOp.ofEvents g fn pos es)) :
    ∀ (M : Nat) (c : Cf) (q : Nat → Nat), sumTo c.gs.size q ≤ M → Lv P act c.t c.gs q → TP c.t → (∀ j g, act j → c.gs[j]? = some g → awake g ∧ ∀ d, g.again (c.w.at d) = g) →
      (∃ i g, act i ∧ c.gs[i]? = some g ∧ g.status = .running) →
      ∃ (c1 : Cf) (i : Nat) (g : Goroutine) (d : Nat) (sl' : Option (Nat × Nat)) (q' : Nat → Nat), Runs P c c1 ∧ c1.gs.size = c.gs.size ∧ (∀ j, act j → c1.gs[j]? = c.gs[j]?) ∧ (∃ d', c1.w = c.w.at d') ∧ Lv P act c1.t c1.gs q' ∧ TP c1.t ∧
        act i ∧ c1.gs[i]? = some g ∧ g.status = .running ∧ stepT P c1.m = runT P (crowd c1.gs (c1.w.at d) sl') i := by
  intro M
  induction M with
  | zero =>
    intro c q hM hL hT hA hrun
    obtain ⟨i0, g0, ha0, hi0, hr0⟩ := hrun
    have haw : ∀ g ∈ c.gs, awake g := by
      intro g hg
      obtain ⟨i, hi, rfl⟩ := Array.mem_iff_getElem.1 hg
      by_cases ha : act i
      · exact (hA i _ ha (Array.getElem?_eq_getElem hi)).1
      · exact awake_of ((hL.old i _ ha (Array.getElem?_eq_getElem hi)).status.elim .inl fun x => .inr (.inr x))
    obtain ⟨i, g, d, sl', hi, hg, hst⟩ := crowd_pick (P := P) (w := c.w) (sl := c.sl) haw ⟨i0, g0, hi0, hr0⟩
    refine ⟨c, i, g, d, sl', q, .refl, rfl, fun _ _ => rfl, ⟨c.w.drawn, rfl⟩, hL, hT, ?_, hi, hg, hst⟩
    refine Classical.byContradiction fun ha => ?_
    have hq := hL.old i g ha hi
    have hlt : i < c.gs.size := (Array.getElem?_eq_some_iff.1 hi).1
    have := Go.ConcN.le_sumTo (f := q) hlt
    rw [show q i = 0 by omega] at hq
    rw [hq.1] at hg
    cases hg
  | succ M ih =>
    intro c q hM hL hT hA hrun
    obtain ⟨i0, g0, ha0, hi0, hr0⟩ := hrun
    have haw : ∀ g ∈ c.gs, awake g := by
      intro g hg
      obtain ⟨i, hi, rfl⟩ := Array.mem_iff_getElem.1 hg
      by_cases ha : act i
      · exact (hA i _ ha (Array.getElem?_eq_getElem hi)).1
      · exact awake_of ((hL.old i _ ha (Array.getElem?_eq_getElem hi)).status.elim .inl fun x => .inr (.inr x))
    obtain ⟨i, g, d, sl', hi, hg, hst⟩ := crowd_pick (P := P) (w := c.w) (sl := c.sl) haw ⟨i0, g0, hi0, hr0⟩
    by_cases ha : act i
    · exact ⟨c, i, g, d, sl', q, .refl, rfl, fun _ _ => rfl, ⟨c.w.drawn, rfl⟩, hL, hT, ha, hi, hg, hst⟩
    · have hq := hL.old i g ha hi
      have hlt : i < c.gs.size := (Array.getElem?_eq_some_iff.1 hi).1
      cases hqi : q i with
      | zero => rw [hqi] at hq; rw [hq.1] at hg; cases hg
      | succ k =>
        rw [hqi] at hq
        rcases hq with ⟨hf, _⟩ | ⟨_, g', es, hm, hstp, hq'⟩
        · rw [hf] at hg; cases hg
        by_cases hi0' : i = 0
        · exact absurd (hi0' ▸ h00) ha
        · have hb : (i == 0) = false := by simp; omega
          have hrunT := runT_crowd_go (P := P) (sl := sl') (i := i) hi (by rw [hb]; exact hstp (c.w.at d))
          have hact : ∀ j, act j → ((c.gs.map (woken P g g' (c.w.at d))).setIfInBounds i g')[j]? = c.gs[j]? := fun j hj => by
            have hne : i ≠ j := fun e => ha (e ▸ hj)
            rw [Array.getElem?_setIfInBounds_ne hne, Array.getElem?_map]
            cases hx : c.gs[j]? with
            | none => rfl
            | some x => simp only [Option.map_some]; rw [woken_stays ((hA j x hj hx).2 d)]
          have hsz : ((c.gs.map (woken P g g' (c.w.at d))).setIfInBounds i g').size = c.gs.size := by simp
          have hsum : sumTo c.gs.size (upd q i k) + (k + 1) = sumTo c.gs.size q + k := by
            have := sumTo_upd q k id hlt
            simpa [hqi] using this
          let c1 : Cf := { gs := (c.gs.map (woken P g g' (c.w.at d))).setIfInBounds i g', w := c.w.at d, sl := sl', t := c.t ++ MemOp.ofEvents i g.frame.fn g.frame.place es }
          have hr1 : Runs P c c1 := Runs.one (hst.trans hrunT) rfl
          obtain ⟨c2, i2, g2, d2, sl2, q2, h1, h2, h3, ⟨d', h4⟩, h5⟩ := ih c1 (upd q i k) (by show sumTo ((c.gs.map (woken P g g' (c.w.at d))).setIfInBounds i g').size (upd q i k) ≤ M; rw [hsz]; omega)
            ⟨fun j x hj hx => by
              by_cases hji : i = j
              · subst hji
                change ((c.gs.map (woken P g g' (c.w.at d))).setIfInBounds i g')[i]? = some x at hx
                rw [Array.getElem?_setIfInBounds_self_of_lt (by simpa using hlt)] at hx
                obtain rfl := Option.some.inj hx
                show QuitsD P (upd q i k i) (Deaf (c.t ++ MemOp.ofEvents i g.frame.fn g.frame.place es) i) g'
                rw [upd_same, Deaf_own]
                exact hq'
              · change ((c.gs.map (woken P g g' (c.w.at d))).setIfInBounds i g')[j]? = some x at hx
                rw [Array.getElem?_setIfInBounds_ne hji, Array.getElem?_map] at hx
                obtain ⟨y, hy, rfl⟩ := Option.map_eq_some_iff.1 hx
                have hqj := hL.old j y hj hy
                show QuitsD P (upd q i k j) (Deaf (c.t ++ MemOp.ofEvents i g.frame.fn g.frame.place es) j) _
                rw [woken_quitsD hqj, upd_ne q k (Ne.symm hji), Deaf_other c.t hji _ (ofEvents_g i g.frame.fn g.frame.place es)]
                exact hqj, fun j hj => by
              change ((c.gs.map (woken P g g' (c.w.at d))).setIfInBounds i g').size ≤ j at hj
              rw [hsz] at hj
              show Deaf (c.t ++ MemOp.ofEvents i g.frame.fn g.frame.place es) j = 0
              rw [Deaf_other c.t (g' := i) (by omega) _ (ofEvents_g i g.frame.fn g.frame.place es)]
              exact hL.above j hj⟩
            (hmute _ _ _ _ _ ha hm hT)
            (fun j x hj hx => by
              have hx' : c.gs[j]? = some x := by rw [← hact j hj]; exact hx
              exact ⟨(hA j x hj hx').1, fun d2 => (hA j x hj hx').2 d2⟩)
            ⟨i0, g0, ha0, by show ((c.gs.map (woken P g g' (c.w.at d))).setIfInBounds i g')[i0]? = some g0; rw [hact i0 ha0]; exact hi0, hr0⟩
          exact ⟨c2, i2, g2, d2, sl2, q2, hr1.trans h1, h2.trans hsz, fun j hj => (h3 j hj).trans (hact j hj), ⟨d', h4⟩, h5⟩
end
abbrev noShun : Loc → Prop := fun _ => False
def PastE (t : Trace) : Prop := ∃ B, Past noShun B t
theorem lowA (a : MemAct) : ∃ B, a.low B := by
  cases a with
  | access e =>
    obtain ⟨loc, wr, sy⟩ := e
    cases loc with
    | cell a => exact ⟨a.block + 1, Nat.lt_succ_self _⟩
    | obj r => exact ⟨r + 1, Nat.lt_succ_self _⟩
    | _ => exact ⟨0, trivial⟩
  | mark m => cases m <;> first | exact ⟨_, Nat.lt_succ_self _⟩ | exact ⟨0, trivial⟩
  | go _ => exact ⟨0, trivial⟩
  | start => exact ⟨0, trivial⟩
  | _ => exact ⟨_, Nat.lt_succ_self _⟩
theorem lowE (es : Array Event) : ∃ B, ∀ e ∈ es, (MemAct.ofEvent e).low B := by
  obtain ⟨l⟩ := es
  induction l with
  | nil => exact ⟨0, by simp⟩
  | cons e l ih =>
    obtain ⟨B, hB⟩ := ih
    obtain ⟨B', hB'⟩ := lowA (MemAct.ofEvent e)
    refine ⟨max B B', fun x hx => ?_⟩
    have hx' : x = e ∨ x ∈ l := by simpa using hx
    rcases hx' with rfl | hx'
    · exact MemAct.low_mono (Nat.le_max_right _ _) hB'
    · exact MemAct.low_mono (Nat.le_max_left _ _) (hB x (by simpa using hx'))
theorem PastE.own {t : Trace} (h : PastE t) {fn : FuncId} {pos : String} {es : Array Event} (hc : ∀ e ∈ es, EvCalm e) : PastE (t ++ MemOp.ofEvents 0 fn pos es) := by
  obtain ⟨B, h⟩ := h
  obtain ⟨B', hB'⟩ := lowE es
  exact ⟨max B B', (h.mono (Nat.le_max_left _ _)).own fun e he => ⟨fun _ _ hs => hs.elim, fun h => (by cases hc e he _ h), fun h => (by cases hc e he _ h), MemAct.low_mono (Nat.le_max_right _ _) (hB' e he)⟩⟩
theorem PastE.mute {t : Trace} (h : PastE t) {g : Nat} (hg : g ≠ 0) {fn : FuncId} {pos : String} {es : Array Event} (hm : ∀ e ∈ es, Event.mute e = true) : PastE (t ++ MemOp.ofEvents g fn pos es) := by
  obtain ⟨B, h⟩ := h
  exact ⟨B, h.mute hg hm⟩
theorem pastE_nil : PastE #[] := ⟨0, past_nil⟩
def At0 (P : Program) (fr : Frame) (cs : List Frame) (w : World) (c : Cf) : Prop :=
  c.gs[0]? = some (gor fr cs) ∧ (∃ d, c.w = w.at d) ∧ (∃ q, Lv P (· = 0) c.t c.gs q) ∧ PastE c.t
section
variable {P : Program}
theorem At0.turn {fr : Frame} {cs : List Frame} {w : World} {c : Cf} (h : At0 P fr cs w c) :
    ∃ (c1 : Cf) (d : Nat) (sl' : Option (Nat × Nat)), Runs P c c1 ∧ At0 P fr cs w c1 ∧ stepT P c1.m = runT P (crowd c1.gs (w.at d) sl') 0 := by
  obtain ⟨h0, ⟨d0, hw⟩, ⟨q, hL⟩, hP⟩ := h
  obtain ⟨c1, i, g, d, sl', q', r1, r2, r3, ⟨d', r4⟩, r5, r6, rfl, r8, r9, r10⟩ := Go.Ax.turn (act := (· = 0)) (TP := PastE) (P := P) rfl (fun t g fn pos es ha hm ht => ht.mute ha hm) _ c q (Nat.le_refl _) hL hP
    (fun j g hj hg => by subst hj; rw [h0] at hg; cases hg; exact ⟨awake_of (.inl rfl), fun d => again_run _ rfl⟩) ⟨0, _, rfl, h0, rfl⟩
  refine ⟨c1, d, sl', r1, ⟨(r3 0 rfl).trans h0, ⟨d', by rw [r4, hw]; rfl⟩, ⟨q', r5⟩, r6⟩, ?_⟩
  rw [r10, r4, hw]
  rfl
theorem At0.step {fr : Frame} {cs : List Frame} {w : World} {c : Cf} (h : At0 P fr cs w c) {K : Frame → List Frame → World → Prop}
    (hs : ∀ d, ∃ fr' cs' w' es, stepG P true (gor fr cs) (w.at d) = .go (gor fr' cs') w' es ∧ (∀ e ∈ es, EvCalm e) ∧ K fr' cs' w') :
    ∃ c' fr' cs' w', Runs P c c' ∧ At0 P fr' cs' w' c' ∧ K fr' cs' w' := by
  obtain ⟨c1, d, sl', r1, ⟨h0, _, ⟨q, hL⟩, hP⟩, r2⟩ := h.turn
  obtain ⟨fr', cs', w', es, e1, e2, e3⟩ := hs d
  have hrunT := runT_crowd_go (P := P) (sl := sl') (i := 0) h0 (show stepG P (0 == 0) (gor fr cs) (w.at d) = _ from e1)
  have hlt : 0 < c1.gs.size := (Array.getElem?_eq_some_iff.1 h0).1
  refine ⟨⟨(c1.gs.map (woken P (gor fr cs) (gor fr' cs') w')).setIfInBounds 0 (gor fr' cs'), w', sl', c1.t ++ MemOp.ofEvents 0 fr.fn fr.place es⟩, fr', cs', w', r1.trans (Runs.one (r2.trans hrunT) rfl), ⟨by simp [hlt], ⟨w'.drawn, rfl⟩, ⟨q, ?_⟩, hP.own e2⟩, e3⟩
  exact hL.own rfl hlt _ (ofEvents_g _ _ _ _)
def besideJ (P : Program) : Judg P where
  main := true
  lvl := 1
  rel a b := ∃ d, b = a.at d
  closed S := ∀ fr cs w, (∀ c, At0 P fr cs w c → ∃ c' fr' cs' w', Runs P c c' ∧ At0 P fr' cs' w' c' ∧ S fr' cs' w') → S fr cs w
  refl w := ⟨w.drawn, rfl⟩
  trans a b c h k := by obtain ⟨_, rfl⟩ := h; obtain ⟨d, rfl⟩ := k; exact ⟨d, rfl⟩
  drawn a b h := h
  world S fr cs w w1 hS h hs := hS fr cs w1 fun c hc => ⟨c, fr, cs, w, .refl, ⟨hc.1, by obtain ⟨d, rfl⟩ := h; obtain ⟨d', e⟩ := hc.2.1; exact ⟨d', e⟩, hc.2.2⟩, hs⟩
  move0 S fr cs fr' cs' w hS h hn := hS fr cs w fun c hc => by
    obtain ⟨c', fr1, cs1, w1, r1, r2, rfl, rfl, r3⟩ := hc.step (K := fun fr1 cs1 w1 => fr1 = fr' ∧ cs1 = cs' ∧ ∃ d, w1 = w.at d) fun d => ⟨fr', cs', w.at d, #[], h _, by simp, rfl, rfl, d, rfl⟩
    obtain ⟨d, rfl⟩ := r3
    exact ⟨c', fr1, cs1, w, r1, ⟨r2.1, by obtain ⟨d', e⟩ := r2.2.1; exact ⟨d', e⟩, r2.2.2⟩, hn⟩
  sem S fr cs w α s ok f hS hns hst hun hstep h := hS fr cs w fun c hc => by
    refine hc.step (K := S) fun d => ?_
    obtain ⟨hok, hn⟩ := h (w.at d) ⟨d, rfl⟩
    obtain ⟨es, he, hsub⟩ := hstep _ hok
    exact ⟨_, _, _, es, he, fun e hm => ns_calm s (hns (Nat.le_refl _)) (w.at d) #[] (by simp) e (hsub e hm), hn⟩
theorem At0.ends {fr : Frame} {cs : List Frame} {w : World} {c : Cf} (h : At0 P fr cs w c) {Post : Value → World → Prop}
    (hs : ∀ d, ∃ v es, stepG P true (gor fr cs) (w.at d) = .ended (.done v) (w.at d) es ∧ (∀ e ∈ es, EvCalm e) ∧ Post v (w.at d)) :
    ∃ (c1 : Cf) (o : Outcome) (w' : World) (ops : Array MemOp), Runs P c c1 ∧ stepT P c1.m = (.ended o w', ops) ∧ Conc.Good P Post c1.m o w' (c1.t ++ ops) := by
  obtain ⟨c1, d, sl', r1, ⟨h0, _, ⟨q, hL⟩, hP⟩, r2⟩ := h.turn
  obtain ⟨v, es, e1, e2, e3⟩ := hs d
  have hrunT := runT_many_ended (P := P) (sl := sl') (i := 0) h0 (show stepG P (0 == 0) (gor fr cs) (w.at d) = _ from e1)
  obtain ⟨B, hP'⟩ := hP.own (fn := (gor fr cs).frame.fn) (pos := (gor fr cs).frame.place) e2
  refine ⟨c1, _, _, _, r1, r2.trans hrunT, v, rfl, e3, hP'.clean, hP'.over, ⟨fun x hx => ?_, rfl⟩, fun j x hx hj => ?_⟩
  · obtain ⟨j, hj⟩ := List.mem_iff_getElem?.1 hx
    rw [List.getElem?_drop] at hj
    exact ⟨_, (hL.old (1 + j) x (by omega) (by simpa [Cf.m, crowd] using hj)).leaves⟩
  · have hq := hL.old j x hj hx
    refine ⟨q j, ?_⟩
    have e : (c1.t ++ MemOp.ofEvents 0 (gor fr cs).frame.fn (gor fr cs).frame.place es).deaf j (c1.t ++ MemOp.ofEvents 0 (gor fr cs).frame.fn (gor fr cs).frame.place es).size = Deaf c1.t j :=
      Deaf_other c1.t (g := j) (g' := 0) (Ne.symm hj) _ (ofEvents_g _ _ _ _)
    rw [e]
    exact hq.hears _
theorem CallsL.good {f : FuncId} {args : Array Value} {w : World} {R : Ending → World → Prop} {Post : Value → World → Prop} (hi : P.inits.idxOf? f = none) (h : CallsL (besideJ P) f args w R)
    (hR : ∀ e w', R e w' → ∃ v, e = .returned v ∧ Post v w') (hne : P.funcs[f]?.isSome = true) :
    ∃ M last o w' t', runNT P (M + 1) (solo (G (Frame.enter P f args .normal) []) w) #[] = (.ended o w', t') ∧ runN P M (solo (G (Frame.enter P f args .normal) []) w) = .next last ∧
      step P last = .ended o w' ∧ Conc.Good P Post last o w' t' := by
  let S : SetS := fun fr cs w => ∀ c, At0 P fr cs w c → ∃ (c1 : Cf) (o : Outcome) (w' : World) (ops : Array MemOp), Runs P c c1 ∧ stepT P c1.m = (.ended o w', ops) ∧ Conc.Good P Post c1.m o w' (c1.t ++ ops)
  have hS : (besideJ P).closed S := fun fr cs w h c hc => by
    obtain ⟨c', fr', cs', w', r1, r2, r3⟩ := h c hc
    obtain ⟨c1, o, w2, ops, q1, q2, q3⟩ := r3 c' r2
    exact ⟨c1, o, w2, ops, r1.trans q1, q2, q3⟩
  obtain ⟨c1, o, w', ops, ⟨N, q1⟩, q2, q3⟩ := h [] S hS (fun fr w' hE c hc => by
    obtain ⟨hff, hk, hd, fn, hf, hE⟩ := hE
    rcases hE with ⟨hm, hE⟩ | ⟨v, hm, hE⟩
    · refine hc.ends fun d => ?_
      obtain ⟨v, hv, hr⟩ := hE (w'.at d) ⟨d, rfl⟩
      obtain ⟨v', hv', hpost⟩ := hR _ _ hr
      cases hv'
      refine ⟨v, seen P fr.fn ((results fn fr.tmps).runT P (w'.at d) #[]).2, ?_, fun e he => ns_calm (l := 1) _ (ns_results _ _) _ #[] (by simp) e (seen_sub e he), hpost⟩
      subst hff
      have e0 := runT_of hv
      unfold stepG
      simp only [gor, hm]
      unfold unwind
      simp only [hd, hm, hf]
      rw [e0]
      simp [doReturn, hk, GStep.after, hi]
    · obtain ⟨v', hv', _⟩ := hR _ _ hE
      cases hv') ⟨#[gor (Frame.enter P f args .normal) []], w, none, #[]⟩ ⟨rfl, ⟨w.drawn, rfl⟩, ⟨fun _ => 0, ⟨fun i g hi hg => by
        have : i < 1 := by simpa using (Array.getElem?_eq_some_iff.1 hg).1
        omega, fun _ _ => rfl⟩⟩, pastE_nil⟩
  have e1 : runNT P (N + 1) (solo (G (Frame.enter P f args .normal) []) w) #[] = (.ended o w', c1.t ++ ops) := by
    have : ∀ (N : Nat) (m : Machine) (t : Trace), runNT P N m t = (.next c1.m, c1.t) → runNT P (N + 1) m t = (.ended o w', c1.t ++ ops) := by
      intro N
      induction N with
      | zero => intro m t h; simp only [runNT, Prod.mk.injEq, Stepped.next.injEq] at h; obtain ⟨rfl, rfl⟩ := h; simp only [runNT, q2]
      | succ N ih =>
        intro m t h
        rw [runNT] at h ⊢
        rcases hst : stepT P m with ⟨s, ops'⟩
        rw [hst] at h
        cases s with
        | next m' => exact ih m' _ h
        | ended o' w2 => cases h
    exact this N _ _ q1
  refine ⟨N, c1.m, o, w', c1.t ++ ops, e1, ?_, by rw [step, q2], q3⟩
  rw [← runNT_fst _ _ _ #[]]
  exact congrArg Prod.fst q1
end
end Go.Ax

namespace Go.Ax
open Go Go.RowKit
structure Mask (X : Nat → Prop) (wp w : World) : Prop where
  os : wp.os = w.os
  tape : wp.tape = w.tape
  drawn : wp.drawn = w.drawn
  size : wp.heap.size = w.heap.size
  block : ∀ b, ¬ X b → wp.heap[b]? = w.heap[b]?
  pois : ∀ b, X b → wp.heap[b]? = some (.cells #[] 0 (0, 0))
def Go.Loc.blk : Loc → Option Nat
  | .cell a => some a.block
  | .obj r => some r
  | _ => none
def EvOff (X : Nat → Prop) (e : Event) : Prop := ∀ b, Go.Loc.blk e.loc = some b → ¬ X b
section
variable {P : Program} {X : Nat → Prop}
theorem Dead.run {α : Type} (s : Sem α) : Dead P s → ∀ w, (∃ m w', s.run P w = .halt (.stuck m) w') ∨ ∃ u w', s.run P w = .halt (.unsupported u) w' := by
  have hno : ∀ (w : World) (a : Addr) (m : String), (∃ x, w.noCell a m = .stuck x) ∨ ∃ u, w.noCell a m = .unsupported u := fun w a m => by
    unfold World.noCell
    split
    · exact .inr ⟨_, rfl⟩
    · exact .inr ⟨_, rfl⟩
    · exact .inl ⟨_, rfl⟩
  induction s with
  | pure a => intro h; exact h.elim
  | halt x => intro h w; cases x <;> first | exact h.elim | exact .inl ⟨_, _, rfl⟩ | exact .inr ⟨_, _, rfl⟩
  | load m a k ih =>
    intro h w
    unfold Sem.run
    split
    · exact ih _ (h _) w
    · split
      · exact ih _ (h _) w
      · rename_i x hx
        unfold World.farLoad at hx
        split at hx
        · split at hx
          · cases hx
          · cases hx; exact .inr ⟨_, _, rfl⟩
        · cases hx
          rcases hno w a "load: no such cell" with ⟨x, e⟩ | ⟨u, e⟩
          · exact .inl ⟨_, _, by rw [e]⟩
          · exact .inr ⟨_, _, by rw [e]⟩
  | store m a v k ih =>
    intro h w
    by_cases hagg : (∃ c, v = .agg c) ∨ ∃ c, v = .tuple c
    · rcases hagg with ⟨c, rfl⟩ | ⟨c, rfl⟩ <;> exact .inl ⟨_, _, rfl⟩
    · rw [(store_eq hagg).1]
      split
      · split
        · exact .inr ⟨_, _, rfl⟩
        · exact ih h _
      · split
        · exact ih h _
        · rename_i x hx
          unfold World.farStore at hx
          split at hx
          · split at hx
            · cases hx
            · cases hx; exact .inr ⟨_, _, rfl⟩
          · cases hx
            rcases hno w a "store: no such cell" with ⟨x, e⟩ | ⟨u, e⟩
            · exact .inl ⟨_, _, by rw [e]⟩
            · exact .inr ⟨_, _, by rw [e]⟩
  | new o k ih => intro h w; exact ih _ (h _) _
  | shape r k ih => intro h w; exact ih _ (h _) _
  | freeze a n k ih => intro h w; exact ih h _
  | frozen a k ih => intro h w; exact ih _ (h _) _
  | getObj r k ih =>
    intro h w
    unfold Sem.run
    split
    · exact .inl ⟨_, _, rfl⟩
    · exact ih _ (h _) w
    · exact .inl ⟨_, _, rfl⟩
  | setObj r o k ih =>
    intro h w
    unfold Sem.run
    split
    · exact .inl ⟨_, _, rfl⟩
    · exact ih h _
    · exact .inl ⟨_, _, rfl⟩
  | choose q k ih =>
    intro h w
    unfold Sem.run
    split
    · exact ih _ (h _) w
    · exact ih _ (h _) _
  | sys c k ih => intro h w; exact ih _ (h _) _
  | program k ih => intro h w; exact ih P h w
  | mark m k ih => intro h w; exact ih h w
theorem bytes_some {v : Value} {bs : List UInt8} (h : v.bytes? = some bs) : 1 ≤ bs.length := by
  have hle : ∀ s n, (leBytes s n).length = s := by
    intro s
    induction s with
    | zero => intro n; rfl
    | succ s ih => intro n; simp [leBytes, ih]
  cases v <;> simp only [Value.bytes?] at h <;> first | cases h; done | skip
  · cases h; simp
  · cases h; rename_i k n; rw [hle]; cases k <;> decide
  · cases h; rename_i k b; rw [hle]; cases k <;> decide
  · cases h; rename_i k a b; rw [List.length_append, hle, hle]; cases k <;> decide
theorem seenCells_nil {p : Program} {e : TypeId} {f x stop : Nat} (h : x < stop) : ∃ m, seenCells p #[] e f x stop = .error m := by
  cases f with
  | zero => exact ⟨_, rfl⟩
  | succ f =>
    unfold seenCells
    rw [if_neg (by omega)]
    dsimp only
    split
    · exact ⟨_, rfl⟩
    · split
      · exact ⟨_, rfl⟩
      · simp
theorem seen_pois {w : World} {at_ k : Addr} {u : TypeId} {atomic : Bool} (hb : w.heap[at_.block]? = some (.cells #[] 0 (0, 0))) : ∃ m, w.seen P at_ u k atomic = .error m := by
  unfold World.seen
  simp only [hb, bind, Except.bind]
  split
  · exact ⟨_, rfl⟩
  split
  · split
    · split
      · split
        · exact ⟨_, rfl⟩
        · split
          · rename_i like _ _ size hsize _ β _ _ _ b0 _
            obtain ⟨bs, hbs, rfl⟩ := Option.map_eq_some_iff.1 hsize
            obtain ⟨m, hm⟩ := seenCells_nil (p := P) (e := 0) (f := bs.length + 1) (x := at_.off / P.cellsOf 0 * P.bytesOf 0 + b0 + β) (stop := at_.off / P.cellsOf 0 * P.bytesOf 0 + b0 + β + bs.length) (by have := bytes_some hbs; omega)
            rw [hm]
            exact ⟨_, rfl⟩
          · exact ⟨_, rfl⟩
      · exact ⟨_, rfl⟩
    · exact ⟨_, rfl⟩
  · exact ⟨_, rfl⟩
theorem seen_same {w wp : World} {at_ k : Addr} {u : TypeId} {atomic : Bool} (hb : w.heap[at_.block]? = wp.heap[at_.block]?) : w.seen P at_ u k atomic = wp.seen P at_ u k atomic := by
  unfold World.seen
  rw [hb]
theorem viewLoad_pois {w : World} {at_ k : Addr} {u : TypeId} {atomic : Bool} (hb : w.heap[at_.block]? = some (.cells #[] 0 (0, 0))) : ∃ m, w.viewLoad P at_ u k atomic = .error m := by
  obtain ⟨m, hm⟩ := seen_pois (P := P) (u := u) (k := k) (atomic := atomic) hb
  unfold World.viewLoad
  rw [hm]
  exact ⟨m, rfl⟩
theorem viewLoad_same {w wp : World} {at_ k : Addr} {u : TypeId} {atomic : Bool} (hb : w.heap[at_.block]? = wp.heap[at_.block]?) : w.viewLoad P at_ u k atomic = wp.viewLoad P at_ u k atomic := by
  unfold World.viewLoad
  rw [seen_same hb]
theorem viewStore_pois {w : World} {at_ k : Addr} {u : TypeId} {v : Value} {atomic : Bool} (hb : w.heap[at_.block]? = some (.cells #[] 0 (0, 0))) : ∃ m, w.viewStore P at_ u k v atomic = .error m := by
  obtain ⟨m, hm⟩ := seen_pois (P := P) (u := u) (k := k) (atomic := atomic) hb
  unfold World.viewStore
  rw [hm]
  simp only [bind, Except.bind]
  split
  · exact ⟨_, rfl⟩
  · exact ⟨_, rfl⟩
def Bad {α : Type} (r : Result α) : Prop := (∃ m w', r = .halt (.stuck m) w') ∨ ∃ u w', r = .halt (.unsupported u) w'
theorem cell_pois {w : World} {a : Addr} (hb : w.heap[a.block]? = some (.cells #[] 0 (0, 0))) : w.cell? a = none := by
  unfold World.cell?
  rw [hb]
  simp
theorem far_pois {w : World} {a : Addr} {at_ : Bool} (hb : w.heap[a.block]? = some (.cells #[] 0 (0, 0))) : ∃ m, w.farLoad P a at_ = .error (.stuck m) := by
  unfold World.farLoad World.noCell
  rw [hb]
  exact ⟨_, rfl⟩
theorem farS_pois {w : World} {a : Addr} {v : Value} {at_ : Bool} (hb : w.heap[a.block]? = some (.cells #[] 0 (0, 0))) : ∃ m, w.farStore P a v at_ = .error (.stuck m) := by
  unfold World.farStore World.noCell
  rw [hb]
  exact ⟨_, rfl⟩
theorem cell_mask {w wp : World} {a : Addr} (h : Mask X wp w) (hx : ¬ X a.block) : w.cell? a = wp.cell? a := by
  unfold World.cell?
  rw [h.block _ hx]
theorem frozen_mask {w wp : World} {a : Addr} (h : Mask X wp w) (hx : ¬ X a.block) : w.frozen? a = wp.frozen? a := by
  unfold World.frozen?
  rw [h.block _ hx]
theorem noCell_mask {w wp : World} {a : Addr} {m : String} (h : Mask X wp w) (hx : ¬ X a.block) : w.noCell a m = wp.noCell a m := by
  unfold World.noCell
  rw [h.block _ hx]
theorem Mask.lt {w wp : World} (h : Mask X wp w) {b : Nat} (hb : X b) : b < wp.heap.size := (Array.getElem?_eq_some_iff.1 (h.pois b hb)).1
theorem setCell_size (w : World) (a : Addr) (v : Value) : (w.setCell a v).heap.size = w.heap.size := by simp [World.setCell]
theorem setCell_other (w : World) (a : Addr) (v : Value) {b : Nat} (h : b ≠ a.block) : (w.setCell a v).heap[b]? = w.heap[b]? := by
  simp [World.setCell, Array.getElem?_modify, Ne.symm h]
theorem setCell_at (w : World) (a : Addr) (v : Value) : (w.setCell a v).heap[a.block]? = (w.heap[a.block]?).map fun
      | .cells c elem frozen => .cells (if a.spot.isSome then c else c.setIfInBounds a.off v) elem frozen
      | o => o := by
  unfold World.setCell
  rw [Array.getElem?_modify, if_pos rfl]
  rfl
theorem setCell_mask {w wp : World} (h : Mask X wp w) (a : Addr) (v : Value) (hx : ¬ X a.block) : Mask X (wp.setCell a v) (w.setCell a v) :=
  ⟨h.os, h.tape, h.drawn, by rw [setCell_size, setCell_size]; exact h.size, fun b hb => by
    by_cases hab : b = a.block
    · subst hab; rw [setCell_at, setCell_at, h.block _ hx]
    · rw [setCell_other _ _ _ hab, setCell_other _ _ _ hab]; exact h.block b hb, fun b hb => by rw [setCell_other _ _ _ (fun e => hx (e ▸ hb))]; exact h.pois b hb⟩
theorem push_mask {w wp : World} (h : Mask X wp w) (o : Obj) : Mask X { wp with heap := wp.heap.push o } { w with heap := w.heap.push o } :=
  ⟨h.os, h.tape, h.drawn, by simp [h.size], fun b hb => by simp only [Array.getElem?_push, h.size, h.block b hb], fun b hb => by
    have := h.lt hb
    simp only [Array.getElem?_push]
    rw [if_neg (by omega)]; exact h.pois b hb⟩
theorem set_mask {w wp : World} (h : Mask X wp w) (r : Nat) (o : Obj) (hx : ¬ X r) : Mask X { wp with heap := wp.heap.setIfInBounds r o } { w with heap := w.heap.setIfInBounds r o } :=
  ⟨h.os, h.tape, h.drawn, by simp [h.size], fun b hb => by simp only [Array.getElem?_setIfInBounds, h.size, h.block b hb], fun b hb => by
    simp only [Array.getElem?_setIfInBounds]
    rw [if_neg (fun e : r = b => hx (e ▸ hb))]; exact h.pois b hb⟩
theorem viewStore_mask {w wp wp2 : World} {at_ k : Addr} {u : TypeId} {v : Value} {atomic : Bool} {l : List Addr} (hb : w.heap[at_.block]? = wp.heap[at_.block]?) (h : wp.viewStore P at_ u k v atomic = .ok (wp2, l)) :
    (∃ o, wp2 = { wp with heap := wp.heap.setIfInBounds at_.block o } ∧ w.viewStore P at_ u k v atomic = .ok ({ w with heap := w.heap.setIfInBounds at_.block o }, l)) ∧ ∀ a ∈ l, a.block = at_.block := by
  unfold World.viewStore at h
  simp only [bind, Except.bind, pure] at h
  iterate 8 (all_goals (try (split at h <;> try (cases h; done))))
  rename_i h1 _ r hr _ bs hbs h2 _ c hc
  simp only [Except.pure, Except.ok.injEq, Prod.mk.injEq] at h
  obtain ⟨rfl, rfl⟩ := h
  refine ⟨⟨_, rfl, ?_⟩, fun a ha => ?_⟩
  · unfold World.viewStore
    rw [seen_same hb]
    simp only [bind, Except.bind, pure]
    rw [if_neg h1, hr]
    dsimp only
    rw [hbs]
    dsimp only
    rw [if_neg h2]
    rw [hc]
    rfl
  · obtain ⟨x, _, rfl⟩ := List.mem_map.1 ha
    rfl
theorem viewLoad_ok {w : World} {at_ k : Addr} {u : TypeId} {v : Value} {atomic : Bool} {l : List Addr} (h : w.viewLoad P at_ u k atomic = .ok (v, l)) : ∀ a ∈ l, a.block = at_.block := by
  unfold World.viewLoad at h
  simp only [bind, Except.bind, pure] at h
  iterate 4 (all_goals (try (split at h <;> try (cases h; done))))
  simp only [Except.pure, Except.ok.injEq, Prod.mk.injEq] at h
  obtain ⟨rfl, rfl⟩ := h
  intro a ha
  obtain ⟨x, _, rfl⟩ := List.mem_map.1 ha
  rfl
theorem off_push {es : Array Event} {x : Event} (h : ∀ e ∈ es, EvOff X e) (hx : EvOff X x) : ∀ e ∈ es.push x, EvOff X e := fun e he => by
  rcases Array.mem_push.1 he with he | rfl
  · exact h e he
  · exact hx
theorem off_app {es fs : Array Event} (h : ∀ e ∈ es, EvOff X e) (hx : ∀ e ∈ fs, EvOff X e) : ∀ e ∈ es ++ fs, EvOff X e := fun e he => by
  rcases Array.mem_append.1 he with he | he
  · exact h e he
  · exact hx e he
theorem off_touched {l : List Addr} {b : Nat} (hb : ¬ X b) (hl : ∀ a ∈ l, a.block = b) (x y : Bool) : ∀ e ∈ l.toArray.map (fun a => (⟨.cell a, x, y⟩ : Event)), EvOff X e := fun e he => by
  simp only [List.map_toArray, List.mem_toArray, List.mem_map] at he
  obtain ⟨a, ha, rfl⟩ := he
  intro b' hb'
  cases hb'
  rw [hl a ha]
  exact hb
theorem ns_frame {α : Type} (s : Sem α) : NS 2 P s → ∀ (wp w : World) (es : Array Event), Mask X wp w → ¬ Bad (s.run P wp) → (∀ e ∈ es, EvOff X e) →
    rv (s.run P w) = rv (s.run P wp) ∧ Mask X (Result.wd (s.run P wp)) (Result.wd (s.run P w)) ∧ (∀ b, X b → (Result.wd (s.run P w)).heap[b]? = w.heap[b]?) ∧ ∀ e ∈ (s.runT P w es).2, EvOff X e := by
  induction s with
  | pure a => intro _ wp w es hm _ h; exact ⟨rfl, hm, fun _ _ => rfl, h⟩
  | halt a => intro _ wp w es hm _ h; exact ⟨rfl, hm, fun _ _ => rfl, h⟩
  | load m a k ih =>
    intro hn wp w es hm hb h
    by_cases hx : X a.block
    · obtain ⟨e, he⟩ := far_pois (P := P) (at_ := (m == .atomic)) (hm.pois _ hx)
      refine absurd (.inl ⟨e, wp, ?_⟩) hb
      unfold Sem.run
      rw [cell_pois (hm.pois _ hx)]
      simp only [he]
    · unfold Sem.run at hb ⊢
      unfold Sem.runT
      rw [cell_mask hm hx]
      cases hq : wp.cell? a with
      | some v =>
        rw [hq] at hb
        exact ih v (hn v) wp w _ hm hb (off_push h fun b hb => by cases hb; exact hx)
      | none =>
        rw [hq] at hb
        dsimp only at hb ⊢
        have hfar : (∀ at_ u, wp.heap[a.block]? ≠ some (.view at_ u)) → ∃ e, wp.farLoad P a (m == .atomic) = .error e ∧ w.farLoad P a (m == .atomic) = .error e := fun hno => by
          unfold World.farLoad
          rw [← hm.block _ hx, noCell_mask hm hx]
          split
          · rename_i hv; exact absurd hv (hno _ _)
          · exact ⟨_, rfl, rfl⟩
        by_cases hvv : ∃ at_ u, wp.heap[a.block]? = some (.view at_ u)
        · obtain ⟨at_, u, hv⟩ := hvv
          unfold World.farLoad at hb ⊢
          rw [← hm.block _ hx]
          simp only [hv] at hb ⊢
          by_cases hxt : X at_.block
          · obtain ⟨m', hm'⟩ := viewLoad_pois (P := P) (k := a) (u := u) (atomic := (m == .atomic)) (hm.pois _ hxt)
            rw [hm'] at hb
            exact absurd (.inr ⟨_, _, rfl⟩) hb
          · rw [viewLoad_same (w := w) (wp := wp) (hm.block _ hxt).symm]
            cases hvl : wp.viewLoad P at_ u a (m == .atomic) with
            | error e => rw [hvl] at hb; exact absurd (.inr ⟨_, _, rfl⟩) hb
            | ok r =>
              obtain ⟨v, l⟩ := r
              rw [hvl] at hb
              exact ih v (hn v) wp w _ hm hb (off_app h (off_touched hxt (viewLoad_ok hvl) _ _))
        · obtain ⟨e, he1, he2⟩ := hfar fun at_ u hv => hvv ⟨at_, u, hv⟩
          rw [he1, he2]
          exact ⟨rfl, hm, fun _ _ => rfl, h⟩
  | store m a v k ih =>
    intro hn wp w es hm hb h
    by_cases hagg : (∃ c, v = .agg c) ∨ ∃ c, v = .tuple c
    · rcases hagg with ⟨c, rfl⟩ | ⟨c, rfl⟩ <;> exact absurd (.inl ⟨_, _, rfl⟩) hb
    · obtain ⟨e1, e2⟩ := store_eq (P := P) (m := m) (a := a) (k := k) hagg
      by_cases hx : X a.block
      · obtain ⟨e, he⟩ := farS_pois (P := P) (v := v) (at_ := (m == .atomic)) (hm.pois _ hx)
        refine absurd (.inl ⟨e, wp, ?_⟩) hb
        rw [e1, cell_pois (hm.pois _ hx)]
        simp only [he]
      · rw [e1] at hb
        rw [e1, e1, e2]
        rw [cell_mask hm hx, frozen_mask hm hx]
        cases hq : wp.cell? a with
        | some v' =>
          rw [hq] at hb
          dsimp only at hb ⊢
          by_cases hf : wp.frozen? a = true
          · rw [if_pos hf] at hb; exact absurd (.inr ⟨_, _, rfl⟩) hb
          · rw [if_neg hf] at hb
            rw [if_neg hf, if_neg hf, if_neg hf]
            obtain ⟨q1, q2, q3, q4⟩ := ih hn (wp.setCell a v) (w.setCell a v) (es.push ⟨.cell a, true, m == .atomic⟩) (setCell_mask hm a v hx) hb (off_push h fun b hb => by cases hb; exact hx)
            exact ⟨q1, q2, fun b hb => (q3 b hb).trans (setCell_other _ _ _ fun e => hx (e ▸ hb)), q4⟩
        | none =>
          rw [hq] at hb
          dsimp only at hb ⊢
          have hfar : (∀ at_ u, wp.heap[a.block]? ≠ some (.view at_ u)) → ∃ e, wp.farStore P a v (m == .atomic) = .error e ∧ w.farStore P a v (m == .atomic) = .error e := fun hno => by
            unfold World.farStore
            rw [← hm.block _ hx, noCell_mask hm hx]
            split
            · rename_i hv; exact absurd hv (hno _ _)
            · exact ⟨_, rfl, rfl⟩
          by_cases hvv : ∃ at_ u, wp.heap[a.block]? = some (.view at_ u)
          · obtain ⟨at_, u, hv⟩ := hvv
            unfold World.farStore at hb ⊢
            rw [← hm.block _ hx]
            simp only [hv] at hb ⊢
            by_cases hxt : X at_.block
            · obtain ⟨m', hm'⟩ := viewStore_pois (P := P) (k := a) (u := u) (v := v) (atomic := (m == .atomic)) (hm.pois _ hxt)
              rw [hm'] at hb
              exact absurd (.inr ⟨_, _, rfl⟩) hb
            · cases hvl : wp.viewStore P at_ u a v (m == .atomic) with
              | error e => rw [hvl] at hb; exact absurd (.inr ⟨_, _, rfl⟩) hb
              | ok r =>
                obtain ⟨wp2, l⟩ := r
                obtain ⟨⟨o, rfl, hw⟩, hl⟩ := viewStore_mask (w := w) (hm.block _ hxt).symm hvl
                rw [hvl] at hb
                rw [hw]
                obtain ⟨q1, q2, q3, q4⟩ := ih hn _ { w with heap := w.heap.setIfInBounds at_.block o } _ (set_mask hm at_.block o hxt) hb (off_app h (off_touched hxt hl true (m == .atomic)))
                exact ⟨q1, q2, fun b hb => (q3 b hb).trans (by simp only [Array.getElem?_setIfInBounds]; rw [if_neg (fun e : at_.block = b => hxt (e ▸ hb))]), q4⟩
          · obtain ⟨e, he1, he2⟩ := hfar fun at_ u hv => hvv ⟨at_, u, hv⟩
            rw [he1, he2]
            exact ⟨rfl, hm, fun _ _ => rfl, h⟩
  | new o k ih =>
    intro hn wp w es hm hb h
    have hz := hm.size
    have := ih wp.heap.size (hn.2 _) { wp with heap := wp.heap.push o } { w with heap := w.heap.push o } es (push_mask hm o) hb h
    unfold Sem.runT Sem.run
    rw [← hz]
    exact ⟨this.1, this.2.1, fun b hb => (this.2.2.1 b hb).trans (by
      have := hm.lt hb
      simp only [Array.getElem?_push]
      rw [if_neg (by omega)]), this.2.2.2⟩
  | shape r k ih =>
    intro hn wp w es hm hb h
    refine absurd ?_ hb
    exact Dead.run (P := P) _ (hn.1.resolve_left (by omega) _) wp
  | freeze a n k ih => intro hn; exact absurd hn.1 (by omega)
  | frozen a k ih =>
    intro hn wp w es hm hb h
    refine absurd ?_ hb
    exact Dead.run (P := P) _ (hn.1.resolve_left (by omega) _) wp
  | getObj r k ih =>
    intro hn wp w es hm hb h
    by_cases hx : X r
    · refine absurd (.inl ⟨"getObj: a row of cells", wp, ?_⟩) hb
      unfold Sem.run
      rw [hm.pois _ hx]
    · unfold Sem.run at hb ⊢
      unfold Sem.runT
      rw [← hm.block r hx]
      cases hq : wp.heap[r]? with
      | none => rw [hq] at hb; exact absurd (.inl ⟨_, _, rfl⟩) hb
      | some o =>
        rw [hq] at hb
        cases o <;> first
          | exact absurd (.inl ⟨_, _, rfl⟩) hb
          | exact ih _ (hn _) wp w _ hm hb (off_push h fun b hb => by cases hb; exact hx)
  | setObj r o k ih =>
    intro hn wp w es hm hb h
    by_cases hx : X r
    · refine absurd (.inl ⟨"setObj: a row of cells", wp, ?_⟩) hb
      unfold Sem.run
      rw [hm.pois _ hx]
    · unfold Sem.run at hb ⊢
      unfold Sem.runT
      rw [← hm.block r hx]
      cases hq : wp.heap[r]? with
      | none => rw [hq] at hb; exact absurd (.inl ⟨_, _, rfl⟩) hb
      | some o' =>
        rw [hq] at hb
        have key : ∀ hb : ¬ Bad (k.run P { wp with heap := wp.heap.setIfInBounds r o }), _ := fun hb =>
          ih hn.2 { wp with heap := wp.heap.setIfInBounds r o } { w with heap := w.heap.setIfInBounds r o } (es.push ⟨.obj r, true, o.isChan⟩) (set_mask hm r o hx) hb (off_push h fun b hb => by cases hb; exact hx)
        cases o' <;> first
          | exact absurd (.inl ⟨_, _, rfl⟩) hb
          | exact ⟨(key hb).1, (key hb).2.1, fun b hb' => ((key hb).2.2.1 b hb').trans (by simp only [Array.getElem?_setIfInBounds]; rw [if_neg (fun e : r = b => hx (e ▸ hb'))]), (key hb).2.2.2⟩
  | choose q k ih =>
    intro hn wp w es hm hb h
    unfold Sem.run at hb ⊢
    unfold Sem.runT
    by_cases hf : q.forced = true
    · rw [if_pos hf] at hb
      rw [if_pos hf, if_pos hf, if_pos hf]
      exact ih 0 (hn 0) wp w es hm hb h
    · rw [if_neg hf] at hb
      rw [if_neg hf, if_neg hf, if_neg hf]
      rw [← hm.tape, ← hm.drawn]
      exact ih _ (hn _) { wp with drawn := wp.drawn + 1 } { w with tape := wp.tape, drawn := wp.drawn + 1 } es ⟨hm.os, rfl, rfl, hm.size, hm.block, hm.pois⟩ hb h
  | sys c k ih => intro hn; exact hn.elim
  | program k ih => intro hn wp w es hm hb h; exact ih P hn wp w es hm hb h
  | mark m k ih =>
    intro hn wp w es hm hb h
    exact ih hn.2 wp w _ hm hb (off_push h fun b hb => by cases hb)
theorem ns_out {l : Nat} {α : Type} (s : Sem α) : NS l P s → ∀ w, (Result.wd (s.run P w)).output = w.output := by
  induction s with
  | pure a => intro _ w; rfl
  | halt a => intro _ w; rfl
  | load m a k ih =>
    intro hn w
    unfold Sem.run
    split
    · exact ih _ (hn _) w
    · split
      · exact ih _ (hn _) w
      · rfl
  | store m a v k ih =>
    intro hn w
    by_cases hagg : (∃ c, v = .agg c) ∨ ∃ c, v = .tuple c
    · rcases hagg with ⟨c, rfl⟩ | ⟨c, rfl⟩ <;> rfl
    · rw [(store_eq hagg).1]
      split
      · split
        · rfl
        · exact (ih hn _).trans rfl
      · split
        · rename_i w2 l hfs
          refine (ih hn _).trans ?_
          unfold World.farStore at hfs
          split at hfs
          · split at hfs
            · rename_i r hr
              obtain ⟨w3, l3⟩ := r
              obtain ⟨⟨o, e, _⟩, _⟩ := viewStore_mask (w := w) rfl hr
              simp only [Except.ok.injEq, Prod.mk.injEq] at hfs
              rw [← hfs.1, e]
            · cases hfs
          · cases hfs
        · rfl
  | new o k ih => intro hn w; exact ih _ (hn.2 _) _
  | shape r k ih => intro hn w; exact ih _ (hn.2 _) _
  | freeze a n k ih =>
    intro hn w
    refine (ih hn.2 _).trans ?_
    unfold World.freeze
    split <;> rfl
  | frozen a k ih => intro hn w; exact ih _ (hn.2 _) _
  | getObj r k ih =>
    intro hn w
    unfold Sem.run
    split
    · rfl
    · exact ih _ (hn _) w
    · rfl
  | setObj r o k ih =>
    intro hn w
    unfold Sem.run
    split
    · rfl
    · exact ih hn.2 _
    · rfl
  | choose q k ih =>
    intro hn w
    unfold Sem.run
    split
    · exact ih _ (hn _) w
    · exact ih _ (hn _) _
  | sys c k ih => intro hn; exact hn.elim
  | program k ih => intro hn w; exact ih P hn w
  | mark m k ih => intro hn w; exact ih hn.2 w
end
end Go.Ax

namespace Go.Ax
open Go Go.RowKit Go.Conc
open Go.ConcN (sumTo upd sumTo_upd upd_ne upd_same)
section
variable {P : Program} {gs : Array Goroutine} {w w₁ : World} {sl : Option (Nat × Nat)} {i j k : Nat} {g g₂ gj : Goroutine} {es : Array Event} {c cap s r : Nat} {tm closed : Bool} {v z zj : Value}
  {blocking : Bool} {shape shj : CommShape} {cs cases : Array CommCase}
theorem crowd_recv_meets_sel (hi : gs[i]? = some g) (h : stepG P (i == 0) g w = .comm g₂ #[rcase c z] blocking shape w₁ es) (hc : w₁.heap[c]? = some (.chan cap #[] closed s r tm))
    (hij : j ≠ i) (hj : gs[j]? = some (parked gj cs shj)) (hk : cs[k]? = some (scase c v zj)) (hp : partners (gs.setIfInBounds i ph) c true = [(j, k)]) :
    runT P (crowd gs w sl) i = (.next (crowd ((gs.setIfInBounds j (gj.finishComm P cs shj k undef false)).setIfInBounds i (g₂.finishComm P #[rcase c z] shape 0 v true)) (w₁.setChan c cap #[] closed (s + 1) (r + 1) tm) sl),
      MemOp.ofEvents i g.frame.fn g.frame.place es ++ #[{ g := j, fn := gj.frame.fn, pos := gj.frame.place, act := .send c s }, { g := i, fn := g₂.frame.fn, pos := g₂.frame.place, act := .recv c r cap },
        { g := j, fn := gj.frame.fn, pos := gj.frame.place, act := .sendDone c s }, { g := i, fn := g₂.frame.fn, pos := g₂.frame.place, act := .recvDone c r }]) := by
  rw [runT_crowd_comm hi h]
  have hj' := stand_get (i := i) hij hj
  have hfp := finishPartner_at P (gs.setIfInBounds i ph) hj' (cs := cs) (sh := shj) rfl k undef
  have hgd : (gs.setIfInBounds i ph).getD j default = parked gj cs shj := by rw [Array.getD_eq_getD_getElem?, hj']; rfl
  have hov : offeredValue (gs.setIfInBounds i ph) j k = v := by simp [offeredValue, hj', parked, hk, scase]
  simp [communicate, ways, rcase, hc, hp, choose, Sem.run, Question.forced, bind, Sem.bind, pure, World.setChan, crowd, hfp, hgd, hov, set_stand2, finishComm_parked, scase, parked, hk]
  rfl
theorem crowd_sel_send_meets (hi : gs[i]? = some g) (h : stepG P (i == 0) g w = .comm g₂ cases blocking shape w₁ es) (hk : cases[k]? = some (scase c v z))
    (ho : ∀ (m : Nat) (c' : CommCase), m ≠ k → cases[m]? = some c' → NoWays w₁ (gs.setIfInBounds i ph) c')
    (hc : w₁.heap[c]? = some (.chan cap #[] false s r tm)) (hij : j ≠ i) (hj : gs[j]? = some (parked gj #[rcase c zj] shj)) (hp : partners (gs.setIfInBounds i ph) c false = [(j, 0)]) :
    runT P (crowd gs w sl) i = (.next (crowd ((gs.setIfInBounds j (gj.finishComm P #[rcase c zj] shj 0 v true)).setIfInBounds i (g₂.finishComm P cases shape k undef false)) (w₁.setChan c cap #[] false (s + 1) (r + 1) tm) sl),
      MemOp.ofEvents i g.frame.fn g.frame.place es ++ #[{ g := i, fn := g₂.frame.fn, pos := g₂.frame.place, act := .send c s }, { g := j, fn := gj.frame.fn, pos := gj.frame.place, act := .recv c r cap },
        { g := i, fn := g₂.frame.fn, pos := g₂.frame.place, act := .sendDone c s }, { g := j, fn := gj.frame.fn, pos := gj.frame.place, act := .recvDone c r }]) := by
  have hw : ways w₁ (gs.setIfInBounds i ph) (scase c v z) = [.partner j 0] := by simp [ways, scase, hc, hp]
  have hj' := stand_get (i := i) hij hj
  have hfp := finishPartner_at P (gs.setIfInBounds i ph) hj' (cs := #[rcase c zj]) (sh := shj) rfl 0 v
  have hgd : (gs.setIfInBounds i ph).getD j default = parked gj #[rcase c zj] shj := by rw [Array.getD_eq_getD_getElem?, hj']; rfl
  rw [runT_crowd_comm hi h]
  unfold communicate
  simp only [ready_one hk (by rw [hw]; simp) ho, hw]
  rw [if_neg]
  · simp [choose, Sem.run, Question.forced, bind, Sem.bind, pure, scase, crowd, hc, hfp, hgd, set_stand2, finishComm_parked, rcase, parked, World.setChan]
    rfl
  · rw [Bool.not_eq_true]; exact any_ill (made_of_one hk (made_send v z hc) ho)
end
def onB (X : Nat → Prop) (l : Loc) : Prop := ∃ b, Go.Loc.blk l = some b ∧ X b
structure PhT (Kn : Trace → Nat → Prop) (X RO : Nat → Prop) (t : Trace) : Prop where
  clean : ∀ said, ¬ Race said t
  mine : ∀ i a, touchAt t i = some a → a.loc.isMemory = true → onB X a.loc → Kn t i ∨ (a.write = false ∧ onB RO a.loc ∧ Knows t 0 i)
  rest : ∀ i a, touchAt t i = some a → a.loc.isMemory = true → ¬ onB X a.loc → Knows t 0 i
  ro : ∀ i a, touchAt t i = some a → a.loc.isMemory = true → onB RO a.loc → a.write = true → Knows t 0 i
  over : ∀ i g, t.g? i = some g → g ≠ 0 → t.counts i → (∃ j, t.g? j = some 0 ∧ HappensBefore t i j) ∨ Kn t i
  hears : Deaf t 0 = 0
def Mono (Kn : Trace → Nat → Prop) : Prop := ∀ t u i, Kn t i → Kn (t ++ u) i
theorem mono_knows (k : Nat) : Mono fun t i => Knows t k i := fun _ u _ h => h.app u
theorem mono_before (p : Nat) : Mono fun t i => Before t i p := fun _ u _ h => h.app u
section
variable {Kn : Trace → Nat → Prop} {X RO : Nat → Prop} {t u : Trace} {k : Nat}
theorem noRace_less {said : Bool} (h : ¬ Race said t) (hu : ∀ op ∈ u, op.act.touch? = none) : ¬ Race said (t ++ u) := by
  rintro ⟨i, j, hij, ⟨a, b, ha, hb, hc⟩, h1, h2⟩
  have old : ∀ {i : Nat} {a : Touch}, ((t ++ u).act? i).bind (·.touch?) = some a → i < t.size := fun {i a} ha => by
    obtain ⟨x, hx, hxa⟩ := touch_of ha
    rcases getElem?_append_cases hx with ⟨hlt, _⟩ | ⟨_, hxu⟩
    · exact hlt
    · rw [hu x hxu] at hxa; cases hxa
  have hi := old ha
  have hj := old hb
  rw [act?_old hi] at ha
  rw [act?_old hj] at hb
  exact h ⟨i, j, hij, ⟨a, b, ha, hb, hc⟩, fun x => h1 (hb_app u x), fun x => h2 (hb_app u x)⟩
theorem lt_of_g? {t : Trace} {i g : Nat} (h : t.g? i = some g) : i < t.size := by
  obtain ⟨z, hz, _⟩ := Option.map_eq_some_iff.1 h
  exact lt_size_of_getElem? hz
theorem over_app (hK : Mono Kn) (h : ∀ i g, t.g? i = some g → g ≠ 0 → t.counts i → (∃ j, t.g? j = some 0 ∧ HappensBefore t i j) ∨ Kn t i) (hu : ∀ i g, t.size ≤ i → (t ++ u).g? i = some g → g ≠ 0 → (t ++ u).counts i → Kn (t ++ u) i) :
    ∀ i g, (t ++ u).g? i = some g → g ≠ 0 → (t ++ u).counts i → (∃ j, (t ++ u).g? j = some 0 ∧ HappensBefore (t ++ u) i j) ∨ Kn (t ++ u) i := by
  intro i g hg hne hc
  by_cases hi : i < t.size
  · rw [g?_old hi] at hg
    rcases h i g hg hne ((counts_old hi).1 hc) with ⟨j, hj, hb⟩ | hk
    · exact .inl ⟨j, by rw [g?_old (lt_of_g? hj)]; exact hj, hb_app u hb⟩
    · exact .inr (hK _ _ _ hk)
  · exact .inr (hu i g (by omega) hg hne hc)
theorem PhT.less (hK : Mono Kn) (h : PhT Kn X RO t) (hu : ∀ op ∈ u, op.act.touch? = none) (hd : Deaf (t ++ u) 0 = 0) : PhT Kn X RO (t ++ u) := by
  have old : ∀ {i : Nat} {a : Touch}, touchAt (t ++ u) i = some a → i < t.size ∧ touchAt t i = some a := fun {i a} ha => by
    obtain ⟨x, hx, hxa⟩ := touch_of ha
    rcases getElem?_append_cases hx with ⟨hlt, _⟩ | ⟨_, hxu⟩
    · exact ⟨hlt, by rw [touchAt_old hlt] at ha; exact ha⟩
    · rw [hu x hxu] at hxa; cases hxa
  refine ⟨fun said => noRace_less (h.clean said) hu, fun i a ha hm hx => ?_, fun i a ha hm hx => ?_, fun i a ha hm hx hw => ?_, over_app hK h.over fun i g hi hg hne hc => ?_, hd⟩
  · rcases h.mine i a (old ha).2 hm hx with q | ⟨q1, q2, q3⟩
    · exact .inl (hK _ _ _ q)
    · exact .inr ⟨q1, q2, q3.app u⟩
  · exact (h.rest i a (old ha).2 hm hx).app u
  · exact (h.ro i a (old ha).2 hm hx hw).app u
  · obtain ⟨x, hx, _⟩ := hc
    have := (old hx).1
    omega
theorem PhT.main (hK : Mono Kn) (hR : ∀ b, RO b → X b) (h : PhT Kn X RO t) (hu : ∀ op ∈ u, op.g = 0) (ho : ∀ op ∈ u, ∀ b, op.act.touch? = some b → b.loc.isMemory = true → ¬ onB X b.loc ∨ (b.write = false ∧ onB RO b.loc)) (hd : Deaf (t ++ u) 0 = 0) : PhT Kn X RO (t ++ u) := by
  have new : ∀ {i : Nat} {a : Touch}, touchAt (t ++ u) i = some a → (i < t.size ∧ touchAt t i = some a) ∨ (∃ x, (t ++ u)[i]? = some x ∧ x ∈ u ∧ x.act.touch? = some a) := fun {i a} ha => by
    obtain ⟨x, hx, hxa⟩ := touch_of ha
    rcases getElem?_append_cases hx with ⟨hlt, _⟩ | ⟨_, hxu⟩
    · exact .inl ⟨hlt, by rw [touchAt_old hlt] at ha; exact ha⟩
    · exact .inr ⟨x, hx, hxu, hxa⟩
  have own : ∀ {i : Nat} {x : MemOp}, (t ++ u)[i]? = some x → x ∈ u → Knows (t ++ u) 0 i := fun {i x} hx hxu => by
    have := knows_own hx
    rw [hu x hxu] at this
    exact this
  have ror : ∀ {l : Loc}, onB RO l → onB X l := fun ⟨b, e, hb⟩ => ⟨b, e, hR b hb⟩
  refine ⟨fun said => noRace_append (h.clean said) hu fun i a ha op hop b hb hc => ?_, fun i a ha hm hx => ?_, fun i a ha hm hx => ?_, fun i a ha hm hx hw => ?_, over_app hK h.over fun i g hi hg hne hc => ?_, hd⟩
  · obtain ⟨e, hm, hw, _⟩ := hc
    rcases ho op hop b hb (e ▸ hm) with q | ⟨q1, q2⟩
    · exact h.rest i a ha hm (e ▸ q)
    · exact h.ro i a ha hm (e ▸ q2) (hw.resolve_right (by rw [q1]; simp))
  · rcases new ha with ⟨_, q⟩ | ⟨x, q1, q2, q3⟩
    · rcases h.mine i a q hm hx with q | ⟨q1, q2, q3⟩
      · exact .inl (hK _ _ _ q)
      · exact .inr ⟨q1, q2, q3.app u⟩
    · rcases ho x q2 a q3 hm with q | ⟨q4, q5⟩
      · exact absurd hx q
      · exact .inr ⟨q4, q5, own q1 q2⟩
  · rcases new ha with ⟨_, q⟩ | ⟨x, q1, q2, q3⟩
    · exact (h.rest i a q hm hx).app u
    · exact own q1 q2
  · rcases new ha with ⟨_, q⟩ | ⟨x, q1, q2, q3⟩
    · exact (h.ro i a q hm hx hw).app u
    · exact own q1 q2
  · obtain ⟨z, hz, hzg⟩ := Option.map_eq_some_iff.1 hg
    rcases getElem?_append_cases hz with ⟨hlt, _⟩ | ⟨_, hzu⟩
    · omega
    · rw [hu z hzu] at hzg; omega
theorem PhT.work (h : PhT (fun t i => Knows t k i) X RO t) (hk : k ≠ 0) (hu : ∀ op ∈ u, op.g = k) (ho : ∀ op ∈ u, ∀ b, op.act.touch? = some b → b.loc.isMemory = true → onB X b.loc ∧ (onB RO b.loc → b.write = false)) : PhT (fun t i => Knows t k i) X RO (t ++ u) := by
  have new : ∀ {i : Nat} {a : Touch}, touchAt (t ++ u) i = some a → (i < t.size ∧ touchAt t i = some a) ∨ (∃ x, (t ++ u)[i]? = some x ∧ x ∈ u ∧ x.act.touch? = some a) := fun {i a} ha => by
    obtain ⟨x, hx, hxa⟩ := touch_of ha
    rcases getElem?_append_cases hx with ⟨hlt, _⟩ | ⟨_, hxu⟩
    · exact .inl ⟨hlt, by rw [touchAt_old hlt] at ha; exact ha⟩
    · exact .inr ⟨x, hx, hxu, hxa⟩
  have own : ∀ {i : Nat} {x : MemOp}, (t ++ u)[i]? = some x → x ∈ u → Knows (t ++ u) k i := fun {i x} hx hxu => by
    have := knows_own hx
    rw [hu x hxu] at this
    exact this
  refine ⟨fun said => noRace_append (h.clean said) hu fun i a ha op hop b hb hc => ?_, fun i a ha hm hx => ?_, fun i a ha hm hx => ?_, fun i a ha hm hx hw => ?_, over_app (mono_knows k) h.over fun i g hi hg hne hc => ?_, (Deaf_other t (Ne.symm (Ne.symm hk)) u hu).trans h.hears⟩
  · obtain ⟨e, hm, hw, _⟩ := hc
    obtain ⟨q1, q2⟩ := ho op hop b hb (e ▸ hm)
    rcases h.mine i a ha hm (e ▸ q1) with q | ⟨q3, q4, _⟩
    · exact q
    · exact absurd (hw.resolve_left (by rw [q3]; simp)) (by rw [q2 (e ▸ q4)]; simp)
  · rcases new ha with ⟨_, q⟩ | ⟨x, q1, q2, q3⟩
    · rcases h.mine i a q hm hx with q | ⟨q1, q2, q3⟩
      · exact .inl (q.app u)
      · exact .inr ⟨q1, q2, q3.app u⟩
    · exact .inl (own q1 q2)
  · rcases new ha with ⟨_, q⟩ | ⟨x, q1, q2, q3⟩
    · exact (h.rest i a q hm hx).app u
    · exact absurd (ho x q2 a q3 hm).1 hx
  · rcases new ha with ⟨_, q⟩ | ⟨x, q1, q2, q3⟩
    · exact (h.ro i a q hm hx hw).app u
    · have := (ho x q2 a q3 hm).2 hx
      rw [hw] at this; cases this
  · obtain ⟨z, hz, hzg⟩ := Option.map_eq_some_iff.1 hg
    rcases getElem?_append_cases hz with ⟨hlt, _⟩ | ⟨_, hzu⟩
    · omega
    · exact own hz hzu
theorem PhT.close (h : PhT (fun t i => Knows t k i) X RO t) (hk : k ≠ 0) {y : MemOp} (hg : y.g = k) (hy : y.act.touch? = none) : PhT (fun t' i => Before t' i t.size) X RO (t ++ #[y]) := by
  have hlast : (t ++ #[y])[t.size]? = some y := by simp
  have hl := h.less (u := #[y]) (mono_knows k) (fun op hop => by simp at hop; subst hop; exact hy) ((Deaf_other t (Ne.symm (Ne.symm hk)) _ (fun op hop => by simp at hop; subst hop; exact hg)).trans h.hears)
  have key : ∀ i, Knows (t ++ #[y]) k i → Before (t ++ #[y]) i t.size := fun i hi => by
    obtain ⟨q, z, hz, hzg, hb⟩ := hi
    refine hb.trans ?_
    rcases getElem?_append_cases hz with ⟨hlt, _⟩ | ⟨hge, _⟩
    · exact .inr (hb_po hlt hz hlast (hzg.trans hg.symm))
    · have := lt_size_of_getElem? hz
      simp at this
      exact .inl (by omega)
  exact ⟨hl.clean, fun i a ha hm hx => (hl.mine i a ha hm hx).imp (key i) id, hl.rest, hl.ro, fun i g hi hne hc => (hl.over i g hi hne hc).imp id (key i), hl.hears⟩
theorem lowT (t : Trace) : ∃ B, ∀ op ∈ t, op.act.low B := by
  obtain ⟨l⟩ := t
  induction l with
  | nil => exact ⟨0, by simp⟩
  | cons e l ih =>
    obtain ⟨B, hB⟩ := ih
    obtain ⟨B', hB'⟩ := lowA e.act
    refine ⟨max B B', fun x hx => ?_⟩
    have hx' : x = e ∨ x ∈ l := by simpa using hx
    rcases hx' with rfl | hx'
    · exact MemAct.low_mono (Nat.le_max_right _ _) hB'
    · exact MemAct.low_mono (Nat.le_max_left _ _) (hB x (by simpa using hx'))
theorem PhT.past {c p : Nat} (h : PhT (fun t i => Before t i p) X RO t) (hp : t.act? p = some (.close c)) (hh : t.heard p) {y : MemOp} (hg : y.g = 0) (hy : y.act = .recvClosed c) : PastE (t ++ #[y]) := by
  have hlast : (t ++ #[y])[t.size]? = some y := by simp
  have hpl : p < t.size := lt_of_act? hp
  have hd : Deaf (t ++ #[y]) 0 = 0 := by
    rw [Deaf_push, h.hears]
    simp [deafStep, hy]
  have hl := h.less (u := #[y]) (mono_before p) (fun op hop => by simp at hop; subst hop; rw [hy]; rfl) hd
  have hb : HappensBefore (t ++ #[y]) p t.size := .single (.inr ⟨.closed (c := c) (by rw [act?_old hpl]; exact hp) (by rw [act?_of hlast, hy]), (heard_old hpl).2 hh, ⟨0, by simp [Trace.g?, hg], by rw [deaf_old (Nat.le_refl _)]; exact h.hears⟩⟩)
  have key : ∀ i, Before (t ++ #[y]) i p → Knows (t ++ #[y]) 0 i := fun i hi => ⟨t.size, y, hlast, hg, .inr (hi.hb hb)⟩
  obtain ⟨B, hB⟩ := lowT (t ++ #[y])
  refine ⟨B, hl.clean, fun i a ha hm => .inl ?_, fun i g hi hne hc => ?_, hl.hears, hB⟩
  · by_cases hx : onB X a.loc
    · rcases hl.mine i a ha hm hx with q | ⟨_, _, q⟩
      · exact key i q
      · exact q
    · exact hl.rest i a ha hm hx
  · rcases hl.over i g hi hne hc with q | q
    · exact q
    · exact ⟨t.size, by simp [Trace.g?, hg], q.hb hb⟩
theorem PhT.go (h : PastE t) (X RO : Nat → Prop) (hk : k ≠ 0) {x y : MemOp} (hxg : x.g = 0) (hx : x.act = .go k) (hyg : y.g = k) (hy : y.act = .start) (hdk : Deaf t k = 0) : PhT (fun t i => Knows t k i) X RO (t ++ #[x, y]) ∧ Deaf (t ++ #[x, y]) k = 0 := by
  obtain ⟨B, h⟩ := h
  have e2 : t ++ #[x, y] = t ++ #[x] ++ #[y] := by rw [Array.append_assoc]; rfl
  have h1 : (t ++ #[x, y])[t.size]? = some x := by simp
  have h2 : (t ++ #[x, y])[t.size + 1]? = some y := by simp
  have hless : ∀ op ∈ (#[x, y] : Array MemOp), op.act.touch? = none := fun op hop => by
    simp at hop
    rcases hop with rfl | rfl
    · rw [hx]; rfl
    · rw [hy]; rfl
  have hd : ∀ g, Deaf (t ++ #[x, y]) g = Deaf t g := fun g => by
    rw [e2, Deaf_push, Deaf_push]
    simp [deafStep, hx, hy]
  have hheard1 : (t ++ #[x, y]).heard t.size := ⟨0, by simp [Trace.g?, hxg], by rw [deaf_old (Nat.le_refl _)]; exact h.hears⟩
  have hheard2 : (t ++ #[x, y]).heard (t.size + 1) := ⟨k, by simp [Trace.g?, hyg], by
    have e3 : (t ++ #[x, y]).deaf k (t.size + 1) = Deaf (t ++ #[x]) k := by
      rw [e2]
      rw [deaf_old (u := #[y]) (t := t ++ #[x]) (by simp)]
      simp [Deaf]
    rw [e3, Deaf_push, hdk]
    simp [deafStep, hx]⟩
  have hb : HappensBefore (t ++ #[x, y]) t.size (t.size + 1) := .single (.inr ⟨.spawn (child := k) (by rw [act?_of h1, hx]) (by rw [act?_of h2, hy]) (by simp [Trace.g?, hyg]), hheard1, hheard2⟩)
  have key : ∀ i, Knows t 0 i → Knows (t ++ #[x, y]) k i := fun i hi => ⟨t.size + 1, y, h2, hyg, .inr (Before.hb (.inr (Knows.hb_new hi (Nat.le_refl _) h1 hxg)) hb)⟩
  have old : ∀ {i : Nat} {a : Touch}, touchAt (t ++ #[x, y]) i = some a → i < t.size ∧ touchAt t i = some a := fun {i a} ha => by
    obtain ⟨z, hz, hza⟩ := touch_of ha
    rcases getElem?_append_cases hz with ⟨hlt, _⟩ | ⟨_, hzu⟩
    · exact ⟨hlt, by rw [touchAt_old hlt] at ha; exact ha⟩
    · rw [hless z hzu] at hza; cases hza
  have known : ∀ i a, touchAt t i = some a → a.loc.isMemory = true → Knows t 0 i := fun i a ha hm => (h.known i a ha hm).resolve_right fun q => q.1
  refine ⟨⟨fun said => noRace_less (h.clean said) hless, fun i a ha hm _ => .inl (key i (known i a (old ha).2 hm)), fun i a ha hm _ => (known i a (old ha).2 hm).app _, fun i a ha hm _ _ => (known i a (old ha).2 hm).app _, fun i g hg hne hc => .inl ?_, (hd 0).trans h.hears⟩, (hd k).trans hdk⟩
  obtain ⟨z, hz, _⟩ := hc
  have hi := (old hz).1
  obtain ⟨j, hj, hbj⟩ := h.over i g (by rw [g?_old hi] at hg; exact hg) hne ((counts_old hi).1 ⟨z, hz, ‹_›⟩)
  exact ⟨j, by rw [g?_old (lt_of_g? hj)]; exact hj, hb_app _ hbj⟩
end
end Go.Ax

namespace Go.Ax
open Go Go.RowKit Go.Conc
open Go.ConcN (sumTo upd sumTo_upd upd_ne upd_same)
structure Deal where
  X : Nat → Prop
  RO : Nat → Prop
  o : Nat
  st : Nat
  z : Value
  z' : Value
  zm : Value
  out : Array (Nat × ByteArray)
  /-- What the blocks that are only read hold. -/
  cont : Nat → Option Obj
  roX : ∀ b, RO b → X b
  oX : X o
  oRO : ¬ RO o
  stX : X st
  ne : o ≠ st
def ChO (w : World) (c : Nat) : Prop := ∃ s r tm, w.heap[c]? = some (.chan 0 #[] false s r tm)
def SameX (X : Nat → Prop) (w w1 : World) : Prop := ∀ b, X b → w1.heap[b]? = w.heap[b]?
theorem SameX.trans' {X : Nat → Prop} (a b c : World) (h : SameX X a b) (k : SameX X b c) : SameX X a c := fun x hx => (k x hx).trans (h x hx)
def EvX (D : Deal) (e : Event) : Prop := (∀ m, e.loc = .mark m → calmM m = true) ∧ ∀ a, (MemAct.ofEvent e).touch? = some a → a.loc.isMemory = true → onB D.X a.loc ∧ (onB D.RO a.loc → a.write = false)
structure WD (D : Deal) (w w' : World) (es : Array Event) : Prop where
  tape : w'.tape = w.tape
  os : w'.os = w.os
  output : w'.output = w.output
  size : w'.heap.size = w.heap.size
  other : ∀ b, ¬ D.X b → w'.heap[b]? = w.heap[b]?
  o : w'.heap[D.o]? = w.heap[D.o]?
  st : w'.heap[D.st]? = w.heap[D.st]?
  ro : ∀ b, D.RO b → w'.heap[b]? = w.heap[b]?
  ev : ∀ e ∈ es, EvX D e
abbrev selC (D : Deal) (v : Value) : Array CommCase := #[scase D.o v D.z, rcase D.st D.z']
def Served (D : Deal) (w w2 : World) : Prop := (∀ b, D.X b → b ≠ D.o → w2.heap[b]? = w.heap[b]?) ∧ ChO w2 D.o
def AtShut (P : Program) (D : Deal) (g : Goroutine) (w : World) : Prop :=
  g.status = .running ∧ mayWake P g = true ∧ ∃ (g' : Goroutine) (es : Array Event) (s r : Nat) (tm : Bool) (n : Nat), w.heap[D.o]? = some (.chan 0 #[] false s r tm) ∧ stepG P false g w = .go g' { w with heap := w.heap.setIfInBounds D.o (.chan 0 #[] true s r tm) } (es.push ⟨.obj D.o, true, true⟩) ∧ (∀ e ∈ es, EvX D e) ∧ QuitsD P n 0 g'
def AtSel (P : Program) (D : Deal) (v : Value) (Next : Goroutine → World → Prop) (g : Goroutine) (w : World) : Prop :=
  g.status = .running ∧ ∃ g2, stepG P false g w = .comm g2 (selC D v) true .select w #[] ∧ ∀ w2, Served D w w2 → Next (g2.finishComm P (selC D v) .select 0 undef false) w2
def StopW (P : Program) (D : Deal) : List Value → Goroutine → World → Prop
  | [] => AtShut P D
  | v :: vs => AtSel P D v fun g w => ∃ n, Goes P false (SameX D.X) (WD D) (StopW P D vs) n g w
abbrev HandN (P : Program) (D : Deal) (vs : List Value) (n : Nat) (g : Goroutine) (w : World) : Prop := Goes P false (SameX D.X) (WD D) (StopW P D vs) n g w
theorem StopW.running {P : Program} {D : Deal} {vs : List Value} {g : Goroutine} {w : World} (h : StopW P D vs g w) : g.status = .running := by
  cases vs with
  | nil => exact h.1
  | cons v vs => exact h.1
theorem HandN.run {P : Program} {D : Deal} {vs : List Value} {n : Nat} {g : Goroutine} {w : World} (h : HandN P D vs n g w) : g.status = .running :=
  Goes.running (fun _ _ => StopW.running) w (fun _ _ => rfl) h
def MainOk (D : Deal) (m : Goroutine) : Prop := m.status = .running ∨ ∃ g, m = parked g #[rcase D.o D.zm] (.recv true)
structure PhA (P : Program) (D : Deal) (m : Goroutine) (wp : World) (k : Nat) (q : Nat → Nat) (c : Cf) : Prop where
  k0 : k ≠ 0
  m0 : c.gs[0]? = some m
  mask : ∃ d, Mask D.X (wp.at d) c.w
  lv : Lv P (fun i => i = 0 ∨ i = k) c.t c.gs q
  tr : PhT (fun t i => Knows t k i) D.X D.RO c.t
  dk : Deaf c.t k = 0
  co : ChO c.w D.o
  cs : ChO c.w D.st
  out : c.w.output = D.out
  roc : ∀ b, D.RO b → c.w.heap[b]? = D.cont b
theorem Mask.at {X : Nat → Prop} {wp w : World} {d : Nat} (h : Mask X (wp.at d) w) (d' : Nat) : Mask X (wp.at d') (w.at d') := ⟨h.os, h.tape, rfl, h.size, h.block, h.pois⟩
theorem Mask.sym {X : Nat → Prop} {wp w w' : World} {d : Nat} (h : Mask X (wp.at d) w) (ht : w'.tape = w.tape) (ho : w'.os = w.os) (hz : w'.heap.size = w.heap.size) (hb : ∀ b, ¬ X b → w'.heap[b]? = w.heap[b]?) : Mask X (wp.at w'.drawn) w' :=
  ⟨h.os.trans ho.symm, h.tape.trans ht.symm, rfl, h.size.trans hz.symm, fun b hx => (h.block b hx).trans (hb b hx).symm, h.pois⟩
section
variable {P : Program} {D : Deal} {m : Goroutine} {wp : World} {k : Nat} {q : Nat → Nat} {c : Cf}
theorem again_main {w : World} (hm : MainOk D m) (hc : ChO w D.o) : m.again w = m := by
  rcases hm with h | ⟨g, rfl⟩
  · exact again_run w h
  · obtain ⟨s, r, tm, h⟩ := hc
    exact again_recv_open h
theorem again_sel {w : World} {g : Goroutine} {v : Value} (ho : ChO w D.o) (hs : ChO w D.st) : (parked g (selC D v) .select).again w = parked g (selC D v) .select := by
  obtain ⟨s, r, tm, h⟩ := ho
  obtain ⟨s', r', tm', h'⟩ := hs
  simp [Goroutine.again, parked, selC, scase, rcase, h, h']
theorem awake_main (hm : MainOk D m) : awake m := by
  rcases hm with h | ⟨g, rfl⟩
  · exact awake_of (.inl h)
  · exact fun t e => by cases e
theorem PhA.wstep (h : PhA P D m wp k q c) (hm : MainOk D m) {g g' : Goroutine} {w' : World} {es : Array Event} {d : Nat} {sl' : Option (Nat × Nat)} (hg : c.gs[k]? = some g) (hst : stepT P c.m = runT P (crowd c.gs (c.w.at d) sl') k)
    (hs : stepG P false g (c.w.at d) = .go g' w' es) (hw : WD D (c.w.at d) w' es) : ∃ c', Runs P c c' ∧ PhA P D m wp k q c' ∧ c'.gs[k]? = some g' ∧ c'.w = w' := by
  have hb : (k == 0) = false := by simp; exact h.k0
  have hrunT := runT_crowd_go (P := P) (sl := sl') (i := k) hg (by rw [hb]; exact hs)
  have hlt : k < c.gs.size := (Array.getElem?_eq_some_iff.1 hg).1
  have hco : ChO w' D.o := by obtain ⟨s, r, tm, e⟩ := h.co; exact ⟨s, r, tm, hw.o.trans e⟩
  have hcs : ChO w' D.st := by obtain ⟨s, r, tm, e⟩ := h.cs; exact ⟨s, r, tm, hw.st.trans e⟩
  obtain ⟨d0, hmask⟩ := h.mask
  refine ⟨⟨(c.gs.map (woken P g g' w')).setIfInBounds k g', w', sl', c.t ++ MemOp.ofEvents k g.frame.fn g.frame.place es⟩, Runs.one (hst.trans hrunT) rfl, ⟨h.k0, ?_, ⟨w'.drawn, hmask.sym hw.tape hw.os hw.size hw.other⟩, h.lv.own (.inr rfl) hlt _ (ofEvents_g _ _ _ _), ?_, ?_, hco, hcs, hw.output.trans h.out, fun b hb => (hw.ro b hb).trans (h.roc b hb)⟩, by simp [hlt], rfl⟩
  · show ((c.gs.map (woken P g g' w')).setIfInBounds k g')[0]? = some m
    rw [Array.getElem?_setIfInBounds_ne h.k0, Array.getElem?_map, h.m0]
    simp only [Option.map_some]
    rw [woken_stays (again_main hm hco)]
  · refine h.tr.work h.k0 (ofEvents_g _ _ _ _) fun op hop b hb hmem => ?_
    obtain ⟨e, he, rfl⟩ := Go.Conc.mem_ofEvents hop
    exact (hw.ev e he).2 b hb hmem
  · show Deaf (c.t ++ MemOp.ofEvents k g.frame.fn g.frame.place es) k = 0
    rw [Deaf_own, h.dk]
    exact deafBehind_still (fun e he => ⟨fun x => (by cases (hw.ev e he).1 _ x), fun x => (by cases (hw.ev e he).1 _ x)⟩) _
theorem not_blocked {n d : Nat} {g : Goroutine} (h : QuitsD P n d g) : g.status ≠ .blocked := by
  rcases h.status with e | e <;> rw [e] <;> simp
theorem PhA.offs (h : PhA P D m wp k q c) {j : Nat} {g : Goroutine} (h0 : j ≠ 0) (hk : j ≠ k) (hj : c.gs[j]? = some g) (r : Nat) (b : Bool) : offersAt g r b = [] :=
  offersAt_of_not_blocked (not_blocked (h.lv.old j g (by rintro (e | e); exact h0 e; exact hk e) hj)) r b
theorem Deaf_less {t u : Trace} {g : Nat} (hu : ∀ op ∈ u, ∀ mk, op.act ≠ .mark mk) : Deaf (t ++ u) g = Deaf t g := by
  obtain ⟨l⟩ := u
  rw [Deaf_append]
  have : ∀ (l : List MemOp) (d : Nat), (∀ op ∈ l, ∀ mk, op.act ≠ .mark mk) → l.foldl (deafStep g) d = d := by
    intro l
    induction l with
    | nil => intro d _; rfl
    | cons y l ih =>
      intro d hl
      rw [List.foldl_cons]
      have hy : deafStep g d y = d := by
        have := hl y (by simp)
        unfold deafStep
        split
        · rename_i e; exact absurd e (this _)
        · rename_i e; exact absurd e (this _)
        · rfl
      rw [hy]
      exact ih d fun op hop => hl op (by simp [hop])
  exact this l _ fun op hop => hu op (by simpa using hop)
theorem PhA.turn (h : PhA P D m wp k q c) (hm : MainOk D m) {g : Goroutine} (hg : c.gs[k]? = some g) (hgk : g.status = .running ∨ ∃ v g2, g = parked g2 (selC D v) .select) (hrun : m.status = .running ∨ g.status = .running) :
    ∃ (c1 : Cf) (i d : Nat) (sl' : Option (Nat × Nat)) (q' : Nat → Nat), Runs P c c1 ∧ PhA P D m wp k q' c1 ∧ c1.gs[k]? = some g ∧ (∃ d', c1.w = c.w.at d') ∧ (i = 0 ∧ m.status = .running ∨ i = k ∧ g.status = .running) ∧
      stepT P c1.m = runT P (crowd c1.gs (c1.w.at d) sl') i := by
  obtain ⟨d0, hmask⟩ := h.mask
  obtain ⟨c1, i, g1, d, sl', q', r1, r2, r3, ⟨d', r4⟩, r5, r6, r7, r8, r9, r10⟩ := Go.Ax.turn (act := fun i => i = 0 ∨ i = k) (TP := fun t => PhT (fun t i => Knows t k i) D.X D.RO t ∧ Deaf t k = 0) (P := P) (.inl rfl)
    (fun t g fn pos es ha hmu ⟨ht, hd⟩ => by
      have hg0 : g ≠ 0 := fun e => ha (.inl e)
      have hgk : g ≠ k := fun e => ha (.inr e)
      refine ⟨ht.less (mono_knows k) (fun op hop => by obtain ⟨e, he, rfl⟩ := Go.Conc.mem_ofEvents hop; exact touch_mute (hmu e he)) ?_, ?_⟩
      · rw [Deaf_other t hg0 _ (ofEvents_g _ _ _ _)]; exact ht.hears
      · rw [Deaf_other t hgk _ (ofEvents_g _ _ _ _)]; exact hd)
    _ c q (Nat.le_refl _) h.lv ⟨h.tr, h.dk⟩
    (fun j x hj hx => by
      rcases hj with rfl | rfl
      · rw [h.m0] at hx; cases hx
        exact ⟨awake_main hm, fun d => again_main hm h.co⟩
      · rw [hg] at hx; cases hx
        rcases hgk with e | ⟨v, g2, rfl⟩
        · exact ⟨awake_of (.inl e), fun d => again_run _ e⟩
        · exact ⟨fun t e => (by cases e), fun d => again_sel h.co h.cs⟩)
    (by
      rcases hrun with e | e
      · exact ⟨0, m, .inl rfl, h.m0, e⟩
      · exact ⟨k, g, .inr rfl, hg, e⟩)
  refine ⟨c1, i, d, sl', q', r1, ⟨h.k0, (r3 0 (.inl rfl)).trans h.m0, ⟨d', by rw [r4]; exact hmask.at d'⟩, r5, r6.1, r6.2, by rw [r4]; exact h.co, by rw [r4]; exact h.cs, by rw [r4]; exact h.out, by rw [r4]; exact h.roc⟩, (r3 k (.inr rfl)).trans hg, ⟨d', r4⟩, ?_, r10⟩
  rcases r7 with rfl | rfl
  · rw [r3 0 (.inl rfl), h.m0] at r8; cases r8; exact .inl ⟨rfl, r9⟩
  · rw [r3 i (.inr rfl), hg] at r8; cases r8; exact .inr ⟨rfl, r9⟩
def PhR (P : Program) (D : Deal) (m : Goroutine) (wp : World) (vs : List Value) (k : Nat) (q : Nat → Nat) (n : Nat) (c : Cf) : Prop := PhA P D m wp k q c ∧ ∃ g, c.gs[k]? = some g ∧ HandN P D vs n g c.w
def PhP (P : Program) (D : Deal) (m : Goroutine) (wp : World) (vs : List Value) (k : Nat) (q : Nat → Nat) (c : Cf) : Prop :=
  PhA P D m wp k q c ∧ ∃ v vs' g2, vs = v :: vs' ∧ c.gs[k]? = some (parked g2 (selC D v) .select) ∧ ∀ w2, Served D c.w w2 → ∃ n, HandN P D vs' n (g2.finishComm P (selC D v) .select 0 undef false) w2
def PhZ (P : Program) (D : Deal) (m : Goroutine) (wp : World) (c : Cf) : Prop :=
  c.gs[0]? = some m ∧ (∃ d, Mask D.X (wp.at d) c.w) ∧ (∃ q, Lv P (· = 0) c.t c.gs q) ∧ (∃ s r tm, c.w.heap[D.o]? = some (.chan 0 #[] true s r tm)) ∧ ChO c.w D.st ∧ c.w.output = D.out ∧ (∀ b, D.RO b → c.w.heap[b]? = D.cont b) ∧
    ∃ p, PhT (fun t i => Before t i p) D.X D.RO c.t ∧ c.t.act? p = some (.close D.o) ∧ c.t.heard p
def PhC (P : Program) (D : Deal) (m : Goroutine) (wp : World) (vs : List Value) (c : Cf) : Prop :=
  (∃ k q n, PhR P D m wp vs k q n c) ∨ (∃ k q, PhP P D m wp vs k q c) ∨ (vs = [] ∧ PhZ P D m wp c)
theorem PhZ.turn (h : PhZ P D m wp c) (hm : m.status = .running) :
    ∃ (c1 : Cf) (d : Nat) (sl' : Option (Nat × Nat)), Runs P c c1 ∧ PhZ P D m wp c1 ∧ stepT P c1.m = runT P (crowd c1.gs (c1.w.at d) sl') 0 := by
  obtain ⟨h0, ⟨d0, hmask⟩, ⟨q, hL⟩, hc, hs, hu, hro, p, h1, h2, h3⟩ := h
  obtain ⟨c1, i, g, d, sl', q', r1, r2, r3, ⟨d', r4⟩, r5, ⟨r6, r6', r6''⟩, rfl, r8, r9, r10⟩ := Go.Ax.turn (act := (· = 0)) (TP := fun t => PhT (fun t i => Before t i p) D.X D.RO t ∧ t.act? p = some (.close D.o) ∧ t.heard p) (P := P) rfl
    (fun t g fn pos es ha hmu ⟨ht, hp, hh⟩ => ⟨ht.less (mono_before p) (fun op hop => by obtain ⟨e, he, rfl⟩ := Go.Conc.mem_ofEvents hop; exact touch_mute (hmu e he)) (by rw [Deaf_other t ha _ (ofEvents_g _ _ _ _)]; exact ht.hears),
      by rw [act?_old (lt_of_act? hp)]; exact hp, (heard_old (lt_of_act? hp)).2 hh⟩)
    _ c q (Nat.le_refl _) hL ⟨h1, h2, h3⟩
    (fun j g hj hg => by subst hj; rw [h0] at hg; cases hg; exact ⟨awake_of (.inl hm), fun d => again_run _ hm⟩) ⟨0, _, rfl, h0, hm⟩
  exact ⟨c1, d, sl', r1, ⟨(r3 0 rfl).trans h0, ⟨d', by rw [r4]; exact hmask.at d'⟩, ⟨q', r5⟩, by rw [r4]; exact hc, by rw [r4]; exact hs, by rw [r4]; exact hu, by rw [r4]; exact hro, p, r6, r6', r6''⟩, r10⟩
theorem PhA.shut (h : PhA P D m wp k q c) {g : Goroutine} {d : Nat} {sl' : Option (Nat × Nat)} (hg : c.gs[k]? = some g) (hst : stepT P c.m = runT P (crowd c.gs (c.w.at d) sl') k) (hs : AtShut P D g (c.w.at d))
    {m' : Goroutine} (hm' : ∀ g' w', mayWake P g = true → g'.status ≠ .blocked → g'.status ≠ .waiting → (∃ s r tm, w'.heap[D.o]? = some (.chan 0 #[] true s r tm)) → woken P g g' w' m = m') : ∃ c', Runs P c c' ∧ PhZ P D m' wp c' := by
  obtain ⟨hrun, hmw, g', es, s, r, tm, n, hch, hgo, hes, hq⟩ := hs
  have hb : (k == 0) = false := by simp; exact h.k0
  have hrunT := runT_crowd_go (P := P) (sl := sl') (i := k) hg (by rw [hb]; exact hgo)
  have hlt : k < c.gs.size := (Array.getElem?_eq_some_iff.1 hg).1
  have hlo : D.o < (c.w.at d).heap.size := (Array.getElem?_eq_some_iff.1 hch).1
  obtain ⟨d0, hmask⟩ := h.mask
  generalize hw' : ({ c.w.at d with heap := (c.w.at d).heap.setIfInBounds D.o (.chan 0 #[] true s r tm) } : World) = w' at *
  have hclosed : w'.heap[D.o]? = some (.chan 0 #[] true s r tm) := by rw [← hw']; simp [hlo]
  have hother : ∀ b, b ≠ D.o → w'.heap[b]? = c.w.heap[b]? := fun b hb => by rw [← hw']; simp only [Array.getElem?_setIfInBounds]; rw [if_neg (fun e : D.o = b => hb e.symm)]; rfl
  let t1 : Trace := c.t ++ MemOp.ofEvents k g.frame.fn g.frame.place es
  let y : MemOp := { g := k, fn := g.frame.fn, pos := g.frame.place, act := .close D.o }
  have ht : c.t ++ MemOp.ofEvents k g.frame.fn g.frame.place (es.push ⟨.obj D.o, true, true⟩) = t1 ++ #[y] := by
    show _ = c.t ++ MemOp.ofEvents k g.frame.fn g.frame.place es ++ #[y]
    rw [ofEvents_eq, ofEvents_eq, Array.map_push, Array.append_assoc]
    congr 1
  have hdk1 : Deaf t1 k = 0 := by
    show Deaf (c.t ++ MemOp.ofEvents k g.frame.fn g.frame.place es) k = 0
    rw [Deaf_own, h.dk]
    exact deafBehind_still (fun e he => ⟨fun x => (by cases (hes e he).1 _ x), fun x => (by cases (hes e he).1 _ x)⟩) _
  have hT1 : PhT (fun t i => Knows t k i) D.X D.RO t1 := h.tr.work h.k0 (ofEvents_g _ _ _ _) fun op hop b hb hmem => by
    obtain ⟨e, he, rfl⟩ := Go.Conc.mem_ofEvents hop
    exact (hes e he).2 b hb hmem
  have hlast : (t1 ++ #[y])[t1.size]? = some y := by simp
  have hdk : Deaf (t1 ++ #[y]) k = 0 := by rw [Deaf_push, hdk1]; rfl
  have hst' : g'.status ≠ .blocked := not_blocked hq
  have hst2 : g'.status ≠ .waiting := by rcases hq.status with e | e <;> rw [e] <;> simp
  have hLv := h.lv.own (g := g) (g' := g') (w' := w') (.inr rfl : k = 0 ∨ k = k) hlt (MemOp.ofEvents k g.frame.fn g.frame.place (es.push ⟨.obj D.o, true, true⟩)) (ofEvents_g _ _ _ _)
  rw [ht] at hLv
  refine ⟨⟨(c.gs.map (woken P g g' w')).setIfInBounds k g', w', sl', c.t ++ MemOp.ofEvents k g.frame.fn g.frame.place (es.push ⟨.obj D.o, true, true⟩)⟩, Runs.one (hst.trans hrunT) rfl, ?_, ⟨w'.drawn, ?_⟩, ⟨upd q k n, ?_⟩, ⟨s, r, tm, hclosed⟩, ?_, by show w'.output = D.out; rw [← hw']; exact h.out, fun b hb => (hother b fun e => D.oRO (e ▸ hb)).trans (h.roc b hb), t1.size, ?_, ?_, ?_⟩
  · show ((c.gs.map (woken P g g' w')).setIfInBounds k g')[0]? = some m'
    rw [Array.getElem?_setIfInBounds_ne h.k0, Array.getElem?_map, h.m0]
    simp only [Option.map_some]
    rw [hm' g' w' hmw hst' hst2 ⟨s, r, tm, hclosed⟩]
  · exact hmask.sym (by rw [← hw']; rfl) (by rw [← hw']; rfl) (by rw [← hw']; simp [World.at]) fun b hb => hother b fun e => hb (e ▸ D.oX)
  · show Lv P (· = 0) (c.t ++ MemOp.ofEvents k g.frame.fn g.frame.place (es.push ⟨.obj D.o, true, true⟩)) _ _
    rw [ht]
    refine ⟨fun j x hj hx => ?_, hLv.above⟩
    by_cases hjk : k = j
    · subst hjk
      rw [Array.getElem?_setIfInBounds_self_of_lt (by simpa using hlt)] at hx
      cases hx
      rw [upd_same, hdk]
      exact hq
    · rw [upd_ne q n (Ne.symm hjk)]
      exact hLv.old j x (by rintro (e | e); exact hj e; exact hjk e.symm) hx
  · obtain ⟨s', r', tm', e⟩ := h.cs
    exact ⟨s', r', tm', (hother D.st (Ne.symm D.ne)).trans e⟩
  · show PhT _ _ _ (c.t ++ MemOp.ofEvents k g.frame.fn g.frame.place (es.push ⟨.obj D.o, true, true⟩))
    rw [ht]
    exact hT1.close h.k0 rfl rfl
  · show Trace.act? (c.t ++ MemOp.ofEvents k g.frame.fn g.frame.place (es.push ⟨.obj D.o, true, true⟩)) _ = _
    rw [ht, act?_of hlast]
  · show Trace.heard (c.t ++ MemOp.ofEvents k g.frame.fn g.frame.place (es.push ⟨.obj D.o, true, true⟩)) _
    rw [ht]
    exact ⟨k, by simp [Trace.g?, y], by rw [deaf_old (Nat.le_refl _)]; exact hdk1⟩
end
end Go.Ax

namespace Go.Ax
open Go Go.RowKit Go.Conc
open Go.ConcN (sumTo upd sumTo_upd upd_ne upd_same)
section
variable {P : Program} {D : Deal} {m : Goroutine} {wp : World} {k : Nat} {q : Nat → Nat} {c : Cf} {vs : List Value}
theorem setP_get {gs : Array Goroutine} {i j : Nat} {x g : Goroutine} (h : (gs.setIfInBounds i x)[j]? = some g) : (j = i ∧ g = x) ∨ (j ≠ i ∧ gs[j]? = some g) := by
  by_cases hij : i = j
  · subst hij
    rw [Array.getElem?_setIfInBounds] at h
    split at h
    · split at h
      · exact .inl ⟨rfl, (Option.some.inj h).symm⟩
      · cases h
    · rename_i hne; exact absurd rfl hne
  · rw [Array.getElem?_setIfInBounds_ne hij] at h
    exact .inr ⟨fun e => hij e.symm, h⟩
theorem PhA.noPartners (h : PhA P D m wp k q c) {i r : Nat} {b : Bool} (hm : i ≠ 0 → offersAt m r b = []) (hk : i ≠ k → ∀ g, c.gs[k]? = some g → offersAt g r b = []) : Go.partners (c.gs.setIfInBounds i ph) r b = [] :=
  partners_nil fun j g hj => by
    rcases setP_get hj with ⟨_, rfl⟩ | ⟨hne, hg⟩
    · exact offersAt_ph r b
    · by_cases h0 : j = 0
      · subst h0; rw [h.m0] at hg; cases hg; exact hm (Ne.symm hne)
      · by_cases hjk : j = k
        · subst hjk; exact hk (Ne.symm hne) g hg
        · exact h.offs h0 hjk hg r b
theorem PhA.both (h : PhA P D m wp k q c) {m' g' : Goroutine} {w' : World} {sl' : Option (Nat × Nat)} {u : Trace} {gs' : Array Goroutine} (hg0 : gs'[0]? = some m') (_ : gs'[k]? = some g') (hsz : gs'.size = c.gs.size) (hold : ∀ j, j ≠ 0 → j ≠ k → gs'[j]? = c.gs[j]?)
    (hu : ∀ op ∈ u, op.act.touch? = none ∧ ∀ mk, op.act ≠ .mark mk) (hmask : ∃ d, Mask D.X (wp.at d) w') (ho : ChO w' D.o) (hs : ChO w' D.st) (hout : w'.output = D.out) (hro : ∀ b, D.RO b → w'.heap[b]? = D.cont b) : PhA P D m' wp k q ⟨gs', w', sl', c.t ++ u⟩ := by
  have hd : ∀ g, Deaf (c.t ++ u) g = Deaf c.t g := fun g => Deaf_less fun op hop => (hu op hop).2
  refine ⟨h.k0, hg0, hmask, ⟨fun j x hj hx => ?_, fun j hj => ?_⟩, h.tr.less (mono_knows k) (fun op hop => (hu op hop).1) ((hd 0).trans h.tr.hears), (hd k).trans h.dk, ho, hs, hout, hro⟩
  · have h0 : j ≠ 0 := fun e => hj (.inl e)
    have hk : j ≠ k := fun e => hj (.inr e)
    show QuitsD P (q j) (Deaf (c.t ++ u) j) x
    rw [hd]
    have hx : gs'[j]? = some x := hx
    rw [hold j h0 hk] at hx
    exact h.lv.old j x hj hx
  · show Deaf (c.t ++ u) j = 0
    have hj : gs'.size ≤ j := hj
    rw [hd]
    exact h.lv.above j (hsz ▸ hj)
theorem ofEvents_nil {g : Nat} {fn : FuncId} {pos : String} : MemOp.ofEvents g fn pos #[] = #[] := by rw [ofEvents_eq]; simp
theorem SameX.at {X : Nat → Prop} (w : World) (d : Nat) : SameX X w (w.at d) := fun _ _ => rfl
theorem HandN.at {n : Nat} {g : Goroutine} {w : World} (h : HandN P D vs n g w) (d : Nat) : HandN P D vs n g (w.at d) := Goes.rely SameX.trans' h (SameX.at w d)
theorem PhA.parks (h : PhA P D m wp k q c) (hm : m.status = .running) {g : Goroutine} {v : Value} {vs : List Value} {d : Nat} {sl' : Option (Nat × Nat)} (hg : c.gs[k]? = some g) (hst : stepT P c.m = runT P (crowd c.gs (c.w.at d) sl') k)
    (hs : AtSel P D v (fun g w => ∃ n, HandN P D vs n g w) g (c.w.at d)) : ∃ c', Runs P c c' ∧ PhP P D m wp (v :: vs) k q c' := by
  obtain ⟨_, g2, hcomm, hnext⟩ := hs
  have hb : (k == 0) = false := by simp; exact h.k0
  have hlt : k < c.gs.size := (Array.getElem?_eq_some_iff.1 hg).1
  have hnb : ∀ r b, offersAt m r b = [] := fun r b => offersAt_of_not_blocked (by rw [hm]; simp) r b
  have hpar : ∀ r b, Go.partners (c.gs.setIfInBounds k ph) r b = [] := fun r b => h.noPartners (fun _ => hnb r b) (fun e => absurd rfl e)
  obtain ⟨s, r, tm, hco⟩ := h.co
  obtain ⟨s', r', tm', hcs⟩ := h.cs
  have hrunT := crowd_waits (P := P) (sl := sl') (i := k) hg (by rw [hb]; exact hcomm) (fun cc hcc => by
    have hcc : cc = scase D.o v D.z ∨ cc = rcase D.st D.z' := by simpa [selC] using hcc
    rcases hcc with rfl | rfl
    · exact ways_send_none (w₁ := c.w.at d) hco (Nat.zero_le _) (hpar _ _)
    · exact ways_recv_none (w₁ := c.w.at d) hcs (hpar _ _))
  obtain ⟨d0, hmask⟩ := h.mask
  refine ⟨⟨c.gs.setIfInBounds k (parked g2 (selC D v) .select), c.w.at d, sl', c.t ++ MemOp.ofEvents k g.frame.fn g.frame.place #[]⟩, Runs.one (hst.trans hrunT) rfl,
    h.both (m' := m) (g' := parked g2 (selC D v) .select) ?_ (by simp [hlt]) (by simp) (fun j _ hk => Array.getElem?_setIfInBounds_ne (Ne.symm hk)) (fun op hop => by rw [ofEvents_nil] at hop; simp at hop) ⟨d, hmask.at d⟩ ⟨s, r, tm, hco⟩ ⟨s', r', tm', hcs⟩ h.out h.roc, v, vs, g2, rfl, by simp [hlt], hnext⟩
  rw [Array.getElem?_setIfInBounds_ne h.k0]
  exact h.m0
theorem PhP.turn (h : PhP P D m wp vs k q c) (hm : m.status = .running) : ∃ (c1 : Cf) (d : Nat) (sl' : Option (Nat × Nat)) (q' : Nat → Nat), Runs P c c1 ∧ PhP P D m wp vs k q' c1 ∧ stepT P c1.m = runT P (crowd c1.gs (c1.w.at d) sl') 0 := by
  obtain ⟨hA, v, vs', g2, rfl, hg, hnext⟩ := h
  obtain ⟨c1, i, d, sl', q', r1, r2, r3, ⟨d', r4⟩, r5, r6⟩ := hA.turn (.inl hm) hg (.inr ⟨v, g2, rfl⟩) (.inl hm)
  rcases r5 with ⟨rfl, _⟩ | ⟨_, hx⟩
  · exact ⟨c1, d, sl', q', r1, ⟨r2, v, vs', g2, rfl, r3, fun w2 h2 => hnext w2 ⟨fun b hb hne => (h2.1 b hb hne).trans (by rw [r4]; rfl), h2.2⟩⟩, r6⟩
  · cases hx
theorem PhR.turn : ∀ (n : Nat) {vs : List Value} {q : Nat → Nat} {c : Cf}, PhR P D m wp vs k q n c → m.status = .running → ∃ (c1 : Cf) (d : Nat) (sl' : Option (Nat × Nat)), Runs P c c1 ∧ PhC P D m wp vs c1 ∧ stepT P c1.m = runT P (crowd c1.gs (c1.w.at d) sl') 0 := by
  intro n
  induction n with
  | zero =>
    intro vs q c h hm
    obtain ⟨hA, g, hg, hG⟩ := h
    obtain ⟨c1, i, d, sl', q', r1, r2, r3, ⟨d', r4⟩, r5, r6⟩ := hA.turn (.inl hm) hg (.inl hG.run) (.inl hm)
    rcases r5 with ⟨rfl, _⟩ | ⟨hik, _⟩
    · exact ⟨c1, d, sl', r1, .inl ⟨k, q', 0, r2, g, r3, by rw [r4]; exact hG.at d'⟩, r6⟩
    · have hs := hG ((c.w.at d').at d) (SameX.at c.w d)
      rw [r4, hik] at r6
      cases vs with
      | nil =>
        obtain ⟨c2, s1, s2⟩ := r2.shut r3 (by rw [r4]; exact r6) (by rw [r4]; exact hs) (m' := m) fun g' w' _ _ _ _ => woken_stays (again_run _ hm)
        obtain ⟨c3, d3, sl3, t1, t2, t3⟩ := s2.turn hm
        exact ⟨c3, d3, sl3, (r1.trans s1).trans t1, .inr (.inr ⟨rfl, t2⟩), t3⟩
      | cons v vs =>
        obtain ⟨c2, s1, s2⟩ := r2.parks hm r3 (by rw [r4]; exact r6) (by rw [r4]; exact hs)
        obtain ⟨c3, d3, sl3, q3, t1, t2, t3⟩ := s2.turn hm
        exact ⟨c3, d3, sl3, (r1.trans s1).trans t1, .inr (.inl ⟨k, q3, t2⟩), t3⟩
  | succ n ih =>
    intro vs q c h hm
    obtain ⟨hA, g, hg, hG⟩ := h
    obtain ⟨c1, i, d, sl', q', r1, r2, r3, ⟨d', r4⟩, r5, r6⟩ := hA.turn (.inl hm) hg (.inl hG.run) (.inl hm)
    rcases r5 with ⟨rfl, _⟩ | ⟨hik, _⟩
    · exact ⟨c1, d, sl', r1, .inl ⟨k, q', n + 1, r2, g, r3, by rw [r4]; exact hG.at d'⟩, r6⟩
    · rw [r4, hik] at r6
      rcases hG with hs | ⟨_, hstep⟩
      · have hs := hs ((c.w.at d').at d) (SameX.at c.w d)
        cases vs with
        | nil =>
          obtain ⟨c2, s1, s2⟩ := r2.shut r3 (by rw [r4]; exact r6) (by rw [r4]; exact hs) (m' := m) fun g' w' _ _ _ _ => woken_stays (again_run _ hm)
          obtain ⟨c3, d3, sl3, t1, t2, t3⟩ := s2.turn hm
          exact ⟨c3, d3, sl3, (r1.trans s1).trans t1, .inr (.inr ⟨rfl, t2⟩), t3⟩
        | cons v vs =>
          obtain ⟨c2, s1, s2⟩ := r2.parks hm r3 (by rw [r4]; exact r6) (by rw [r4]; exact hs)
          obtain ⟨c3, d3, sl3, q3, t1, t2, t3⟩ := s2.turn hm
          exact ⟨c3, d3, sl3, (r1.trans s1).trans t1, .inr (.inl ⟨k, q3, t2⟩), t3⟩
      · have hs := hstep ((c.w.at d').at d) (SameX.at c.w d)
        cases hgo : stepG P false g ((c.w.at d').at d) with
        | go g' w' es =>
          rw [hgo, goes_go] at hs
          obtain ⟨hd, hG'⟩ := hs
          obtain ⟨c2, s1, s2, s3, s4⟩ := r2.wstep (.inl hm) r3 (by rw [r4]; exact r6) (by rw [r4]; exact hgo) (by rw [r4]; exact hd)
          obtain ⟨c3, d3, sl3, t1, t2, t3⟩ := ih ⟨s2, g', s3, by rw [s4]; exact hG'⟩ hm
          exact ⟨c3, d3, sl3, (r1.trans s1).trans t1, t2, t3⟩
        | _ => rw [hgo] at hs; exact hs.elim
theorem PhC.turn (h : PhC P D m wp vs c) (hm : m.status = .running) : ∃ (c1 : Cf) (d : Nat) (sl' : Option (Nat × Nat)), Runs P c c1 ∧ PhC P D m wp vs c1 ∧ stepT P c1.m = runT P (crowd c1.gs (c1.w.at d) sl') 0 := by
  rcases h with ⟨k, q, n, h⟩ | ⟨k, q, h⟩ | ⟨rfl, h⟩
  · exact PhR.turn n h hm
  · obtain ⟨c1, d, sl', q', r1, r2, r3⟩ := h.turn hm
    exact ⟨c1, d, sl', r1, .inr (.inl ⟨k, q', r2⟩), r3⟩
  · obtain ⟨c1, d, sl', r1, r2, r3⟩ := h.turn hm
    exact ⟨c1, d, sl', r1, .inr (.inr ⟨rfl, r2⟩), r3⟩
def EvM (D : Deal) (e : Event) : Prop := (∀ mk, e.loc = .mark mk → calmM mk = true) ∧ ∀ b, (MemAct.ofEvent e).touch? = some b → b.loc.isMemory = true → ¬ onB D.X b.loc ∨ (b.write = false ∧ onB D.RO b.loc)
theorem EvM.of {e : Event} (hc : EvCalm e) (ho : EvOff D.X e) : EvM D e := by
  refine ⟨hc, fun b hb _ => .inl ?_⟩
  rintro ⟨x, hx, hX⟩
  obtain ⟨loc, wr, sy⟩ := e
  cases loc with
  | mark mk =>
    cases mk <;> simp only [MemAct.ofEvent, MemAct.touch?] at hb <;> first | cases hb; done | (have := hc _ rfl; cases this)
  | obj r =>
    cases wr <;> cases sy <;> simp [MemAct.ofEvent, MemAct.touch?] at hb <;> subst hb <;> exact ho x hx hX
  | cell a => simp only [MemAct.ofEvent, MemAct.touch?, Option.some.injEq] at hb; subst hb; exact ho x hx hX
  | output => simp only [MemAct.ofEvent, MemAct.touch?, Option.some.injEq] at hb; subst hb; exact ho x hx hX
  | goroutines => simp only [MemAct.ofEvent, MemAct.touch?, Option.some.injEq] at hb; subst hb; exact ho x hx hX
theorem PhT.own0 {Kn : Trace → Nat → Prop} {t : Trace} (hK : Mono Kn) (h : PhT Kn D.X D.RO t) {fn : FuncId} {pos : String} {es : Array Event} (he : ∀ e ∈ es, EvM D e) : PhT Kn D.X D.RO (t ++ MemOp.ofEvents 0 fn pos es) := by
  refine h.main hK D.roX (ofEvents_g _ _ _ _) (fun op hop b hb hm => ?_) ?_
  · obtain ⟨e, hee, rfl⟩ := Go.Conc.mem_ofEvents hop
    exact (he e hee).2 b hb hm
  · rw [Deaf_own, h.hears]
    exact deafBehind_still (fun e hee => ⟨fun x => (by cases (he e hee).1 _ x), fun x => (by cases (he e hee).1 _ x)⟩) _
theorem PhC.step {fr : Frame} {cs : List Frame} (h : PhC P D (gor fr cs) wp vs c) {K : Frame → List Frame → World → Prop}
    (hs : ∀ d w, Mask D.X (wp.at d) w → (∀ b, D.RO b → w.heap[b]? = D.cont b) → ∃ fr' cs' w' es wp', stepG P true (gor fr cs) w = .go (gor fr' cs') w' es ∧ (∃ d', Mask D.X (wp'.at d') w') ∧ (∀ b, D.X b → w'.heap[b]? = w.heap[b]?) ∧ w'.output = w.output ∧ (∀ e ∈ es, EvM D e) ∧ K fr' cs' wp') :
    ∃ c' fr' cs' wp', Runs P c c' ∧ PhC P D (gor fr' cs') wp' vs c' ∧ K fr' cs' wp' := by
  obtain ⟨c1, d, sl', r1, r2, r3⟩ := h.turn rfl
  have go : ∀ (hm0 : c1.gs[0]? = some (gor fr cs)) (hmask : ∃ d, Mask D.X (wp.at d) c1.w) (hro : ∀ b, D.RO b → c1.w.heap[b]? = D.cont b), ∃ fr' cs' w' es wp', stepT P c1.m = (.next (crowd ((c1.gs.map (woken P (gor fr cs) (gor fr' cs') w')).setIfInBounds 0 (gor fr' cs')) w' sl'), MemOp.ofEvents 0 fr.fn fr.place es) ∧
      (∃ d', Mask D.X (wp'.at d') w') ∧ (∀ b, D.X b → w'.heap[b]? = c1.w.heap[b]?) ∧ w'.output = c1.w.output ∧ (∀ e ∈ es, EvM D e) ∧ K fr' cs' wp' := fun hm0 ⟨d0, hmask⟩ hro => by
    obtain ⟨fr', cs', w', es, wp', e1, e2, e3, e4, e5, e6⟩ := hs d (c1.w.at d) (hmask.at d) hro
    have hrunT := runT_crowd_go (P := P) (sl := sl') (i := 0) hm0 (show stepG P (0 == 0) (gor fr cs) (c1.w.at d) = _ from e1)
    exact ⟨fr', cs', w', es, wp', r3.trans hrunT, e2, e3, e4, e5, e6⟩
  rcases r2 with ⟨k, q, n, hA, g, hg, hG⟩ | ⟨k, q, hA, v, vs', g2, rfl, hg, hnext⟩ | ⟨rfl, h0, hmask, ⟨q, hL⟩, hc, hst, hu, hro, p, h1, h2, h3⟩
  · obtain ⟨fr', cs', w', es, wp', e1, e2, e3, e4, e5, e6⟩ := go hA.m0 hA.mask hA.roc
    have hlt : 0 < c1.gs.size := (Array.getElem?_eq_some_iff.1 hA.m0).1
    obtain ⟨s, r, tm, hco⟩ := hA.co
    obtain ⟨s', r', tm', hcs⟩ := hA.cs
    refine ⟨⟨(c1.gs.map (woken P (gor fr cs) (gor fr' cs') w')).setIfInBounds 0 (gor fr' cs'), w', sl', c1.t ++ MemOp.ofEvents 0 fr.fn fr.place es⟩, fr', cs', wp', r1.trans (Runs.one e1 rfl), .inl ⟨k, q, n, ⟨hA.k0, by simp [hlt], e2, hA.lv.own (.inl rfl) hlt _ (ofEvents_g _ _ _ _), hA.tr.own0 (mono_knows k) e5, ?_, ⟨s, r, tm, (e3 _ D.oX).trans hco⟩, ⟨s', r', tm', (e3 _ D.stX).trans hcs⟩, e4.trans hA.out, fun b hb => (e3 b (D.roX b hb)).trans (hA.roc b hb)⟩, g, ?_, Goes.rely SameX.trans' hG e3⟩, e6⟩
    · exact (Deaf_other c1.t (Ne.symm hA.k0) _ (ofEvents_g _ _ _ _)).trans hA.dk
    · show ((c1.gs.map (woken P (gor fr cs) (gor fr' cs') w')).setIfInBounds 0 (gor fr' cs'))[k]? = some g
      rw [Array.getElem?_setIfInBounds_ne (Ne.symm hA.k0), Array.getElem?_map, hg]
      simp only [Option.map_some]
      rw [woken_stays (again_run _ hG.run)]
  · obtain ⟨fr', cs', w', es, wp', e1, e2, e3, e4, e5, e6⟩ := go hA.m0 hA.mask hA.roc
    have hlt : 0 < c1.gs.size := (Array.getElem?_eq_some_iff.1 hA.m0).1
    obtain ⟨s, r, tm, hco⟩ := hA.co
    obtain ⟨s', r', tm', hcs⟩ := hA.cs
    have hco' : ChO w' D.o := ⟨s, r, tm, (e3 _ D.oX).trans hco⟩
    have hcs' : ChO w' D.st := ⟨s', r', tm', (e3 _ D.stX).trans hcs⟩
    refine ⟨⟨(c1.gs.map (woken P (gor fr cs) (gor fr' cs') w')).setIfInBounds 0 (gor fr' cs'), w', sl', c1.t ++ MemOp.ofEvents 0 fr.fn fr.place es⟩, fr', cs', wp', r1.trans (Runs.one e1 rfl), .inr (.inl ⟨k, q, ⟨hA.k0, by simp [hlt], e2, hA.lv.own (.inl rfl) hlt _ (ofEvents_g _ _ _ _), hA.tr.own0 (mono_knows k) e5, ?_, hco', hcs', e4.trans hA.out, fun b hb => (e3 b (D.roX b hb)).trans (hA.roc b hb)⟩, v, vs', g2, rfl, ?_, fun w2 h2' => hnext w2 ⟨fun b hb hne => (h2'.1 b hb hne).trans (e3 b hb), h2'.2⟩⟩), e6⟩
    · exact (Deaf_other c1.t (Ne.symm hA.k0) _ (ofEvents_g _ _ _ _)).trans hA.dk
    · show ((c1.gs.map (woken P (gor fr cs) (gor fr' cs') w')).setIfInBounds 0 (gor fr' cs'))[k]? = _
      rw [Array.getElem?_setIfInBounds_ne (Ne.symm hA.k0), Array.getElem?_map, hg]
      simp only [Option.map_some]
      rw [woken_stays (again_sel hco' hcs')]
  · obtain ⟨fr', cs', w', es, wp', e1, e2, e3, e4, e5, e6⟩ := go h0 hmask hro
    have hlt : 0 < c1.gs.size := (Array.getElem?_eq_some_iff.1 h0).1
    obtain ⟨s, r, tm, hco⟩ := hc
    obtain ⟨s', r', tm', hcs⟩ := hst
    refine ⟨⟨(c1.gs.map (woken P (gor fr cs) (gor fr' cs') w')).setIfInBounds 0 (gor fr' cs'), w', sl', c1.t ++ MemOp.ofEvents 0 fr.fn fr.place es⟩, fr', cs', wp', r1.trans (Runs.one e1 rfl), .inr (.inr ⟨rfl, by simp [hlt], e2, ⟨q, hL.own rfl hlt _ (ofEvents_g _ _ _ _)⟩, ⟨s, r, tm, (e3 _ D.oX).trans hco⟩, ⟨s', r', tm', (e3 _ D.stX).trans hcs⟩, e4.trans hu, fun b hb => (e3 b (D.roX b hb)).trans (hro b hb), p, h1.own0 (mono_before p) e5, ?_, ?_⟩), e6⟩
    · exact (act?_old (lt_of_act? h2)).trans h2
    · exact (heard_old (lt_of_act? h2)).2 h3
end
end Go.Ax

namespace Go.Ax
open Go Go.RowKit Go.Conc
open Go.ConcN (sumTo upd sumTo_upd upd_ne upd_same)
section
variable {P : Program} {D : Deal} {m : Goroutine} {wp : World} {k : Nat} {q : Nat → Nat} {c : Cf} {vs : List Value} {v : Value} {fr : Frame} {cs : List Frame}
theorem Runs.of {gs' : Array Goroutine} {w' : World} {sl' : Option (Nat × Nat)} {ops : Array MemOp} (h : stepT P c.m = (.next (crowd gs' w' sl'), ops)) : Runs P c ⟨gs', w', sl', c.t ++ ops⟩ := Runs.one h rfl
abbrev recvC (D : Deal) : Array CommCase := #[rcase D.o D.zm]
def AtRecv (P : Program) (D : Deal) (m : Goroutine) (fr : Frame) (cs : List Frame) : Prop := m.status = .running ∧ ∀ w, stepG P true m w = .comm (gor fr cs) (recvC D) true (.recv true) w #[]
theorem offs_sel {g : Goroutine} (b : Bool) : offersAt (parked g (selC D v) .select) D.o b = if b then [0] else [] := by
  cases b <;> simp [offersAt, parked, selC, scase, rcase]
  exact fun h => absurd h.symm D.ne
theorem offs_recv {g : Goroutine} : offersAt (parked g (recvC D) (.recv true)) D.o false = [0] := by
  simp [offersAt, parked, rcase]
theorem offs_recv_send {g : Goroutine} (r : Nat) : offersAt (parked g (recvC D) (.recv true)) r true = [] := by
  simp [offersAt, parked, rcase]
theorem passed_mask {w : World} (h : ∃ d, Mask D.X (wp.at d) w) (d s r : Nat) (tm : Bool) : ∃ d', Mask D.X (wp.at d') ((w.at d).setChan D.o 0 #[] false s r tm) := by
  obtain ⟨d0, h⟩ := h
  refine ⟨_, (h.at d).sym (w' := (w.at d).setChan D.o 0 #[] false s r tm) rfl rfl (by simp [World.setChan]) fun b hb => ?_⟩
  simp only [World.setChan, Array.getElem?_setIfInBounds]
  rw [if_neg (fun e : D.o = b => hb (e ▸ D.oX))]
theorem passed_o {w : World} (h : ChO w D.o) (d s r : Nat) (tm : Bool) : ChO ((w.at d).setChan D.o 0 #[] false s r tm) D.o := by
  obtain ⟨s', r', tm', h⟩ := h
  have : D.o < w.heap.size := (Array.getElem?_eq_some_iff.1 h).1
  exact ⟨s, r, tm, by simp [World.setChan, World.at, this]⟩
theorem passed_other {w : World} (d s r : Nat) (tm : Bool) {b : Nat} (hb : b ≠ D.o) : ((w.at d).setChan D.o 0 #[] false s r tm).heap[b]? = w.heap[b]? := by
  simp only [World.setChan, Array.getElem?_setIfInBounds]
  rw [if_neg (fun e : D.o = b => hb e.symm)]
  rfl
theorem four_less {g : Nat} {fn fn' fn'' : FuncId} {pos pos' pos'' : String} {a b a' b' : MemAct} (h1 : a.touch? = none ∧ ∀ mk, a ≠ .mark mk) (h2 : b.touch? = none ∧ ∀ mk, b ≠ .mark mk) (h3 : a'.touch? = none ∧ ∀ mk, a' ≠ .mark mk) (h4 : b'.touch? = none ∧ ∀ mk, b' ≠ .mark mk) {g1 g2 g3 g4 : Nat} :
    ∀ op ∈ MemOp.ofEvents g fn'' pos'' #[] ++ #[({ g := g1, fn := fn, pos := pos, act := a } : MemOp), { g := g2, fn := fn', pos := pos', act := b }, { g := g3, fn := fn, pos := pos, act := a' }, { g := g4, fn := fn', pos := pos', act := b' }], op.act.touch? = none ∧ ∀ mk, op.act ≠ .mark mk := by
  intro op hop
  rw [ofEvents_nil] at hop
  simp at hop
  rcases hop with rfl | rfl | rfl | rfl
  · exact h1
  · exact h2
  · exact h3
  · exact h4
theorem PhR.meet : ∀ (n : Nat) {q : Nat → Nat} {c : Cf}, PhR P D (parked (gor fr cs) (recvC D) (.recv true)) wp (v :: vs) k q n c → ∃ c', Runs P c c' ∧ PhC P D (gor (fr.finish (.tuple #[v, .bool true])) cs) wp vs c' := by
  have meets : ∀ {q : Nat → Nat} {c : Cf} {g : Goroutine} {d : Nat} {sl' : Option (Nat × Nat)}, PhA P D (parked (gor fr cs) (recvC D) (.recv true)) wp k q c → c.gs[k]? = some g → stepT P c.m = runT P (crowd c.gs (c.w.at d) sl') k →
      AtSel P D v (fun g w => ∃ n, HandN P D vs n g w) g (c.w.at d) → ∃ c', Runs P c c' ∧ PhC P D (gor (fr.finish (.tuple #[v, .bool true])) cs) wp vs c' := by
    intro q c g d sl' hA hg hst ⟨hrun, g2, hcomm, hnext⟩
    have hb : (k == 0) = false := by simp; exact hA.k0
    have hlt : k < c.gs.size := (Array.getElem?_eq_some_iff.1 hg).1
    have hlt0 : 0 < c.gs.size := (Array.getElem?_eq_some_iff.1 hA.m0).1
    obtain ⟨s, r, tm, hco⟩ := hA.co
    obtain ⟨s', r', tm', hcs⟩ := hA.cs
    have hp : Go.partners (c.gs.setIfInBounds k ph) D.o false = [(0, 0)] := by
      rw [partners_one (j := 0) (g := parked (gor fr cs) (recvC D) (.recv true)) (by rw [Array.getElem?_setIfInBounds_ne hA.k0]; exact hA.m0) fun j x hj hx => ?_]
      · rw [offs_recv]; rfl
      · rcases setP_get hx with ⟨_, rfl⟩ | ⟨hne, hx⟩
        · exact offersAt_ph _ _
        · exact hA.offs hj hne hx _ _
    have hps : Go.partners (c.gs.setIfInBounds k ph) D.st true = [] := hA.noPartners (fun _ => offs_recv_send _) fun e => absurd rfl e
    have hrunT := crowd_sel_send_meets (P := P) (sl := sl') (i := k) (k := 0) hg (by rw [hb]; exact hcomm) rfl (fun mm c' hm hc' => by
      match mm, hm, hc' with
      | 0, hm, _ => exact absurd rfl hm
      | 1, _, hc' => cases hc'; exact ways_recv_none (w₁ := c.w.at d) hcs hps
      | mm + 2, _, hc' => simp [selC] at hc') (show (c.w.at d).heap[D.o]? = _ from hco) (Ne.symm hA.k0) hA.m0 hp
    obtain ⟨n, hN⟩ := hnext _ ⟨fun b _ hne => passed_other d (s + 1) (r + 1) tm hne, passed_o ⟨s, r, tm, hco⟩ d (s + 1) (r + 1) tm⟩
    have hA' := hA.both (m' := gor (fr.finish (.tuple #[v, .bool true])) cs) (g' := g2.finishComm P (selC D v) .select 0 undef false) (w' := (c.w.at d).setChan D.o 0 #[] false (s + 1) (r + 1) tm) (sl' := sl')
      (gs' := (c.gs.setIfInBounds 0 ((gor fr cs).finishComm P (recvC D) (.recv true) 0 v true)).setIfInBounds k (g2.finishComm P (selC D v) .select 0 undef false))
      (by rw [Array.getElem?_setIfInBounds_ne hA.k0]; simp [hlt0]; rfl) (by simp [hlt]) (by simp) (fun j h0 hk => by rw [Array.getElem?_setIfInBounds_ne (Ne.symm hk), Array.getElem?_setIfInBounds_ne (Ne.symm h0)])
      (four_less (g := k) (fn := g2.frame.fn) (fn' := fr.fn) (fn'' := g.frame.fn) (pos := g2.frame.place) (pos' := fr.place) (pos'' := g.frame.place) (a := .send D.o s) (b := .recv D.o r 0) (a' := .sendDone D.o s) (b' := .recvDone D.o r) (g1 := k) (g2 := 0) (g3 := k) (g4 := 0) ⟨rfl, nofun⟩ ⟨rfl, nofun⟩ ⟨rfl, nofun⟩ ⟨rfl, nofun⟩)
      (passed_mask hA.mask d _ _ _) (passed_o ⟨s, r, tm, hco⟩ d _ _ _) ⟨s', r', tm', (passed_other d _ _ _ (Ne.symm D.ne)).trans hcs⟩ hA.out fun b hb => (passed_other d _ _ _ fun e => D.oRO (e ▸ hb)).trans (hA.roc b hb)
    exact ⟨_, Runs.of (hst.trans hrunT), .inl ⟨k, q, n, hA', _, by simp [hlt], hN⟩⟩
  have hmo : MainOk D (parked (gor fr cs) (recvC D) (.recv true)) := .inr ⟨_, rfl⟩
  intro n
  induction n with
  | zero =>
    intro q c ⟨hA, g, hg, hG⟩
    obtain ⟨c1, i, d, sl', q', r1, r2, r3, ⟨d', r4⟩, r5, r6⟩ := hA.turn hmo hg (.inl hG.run) (.inr hG.run)
    rcases r5 with ⟨_, hx⟩ | ⟨hik, _⟩
    · cases hx
    · rw [hik] at r6
      obtain ⟨c2, s1, s2⟩ := meets r2 r3 r6 (by rw [r4]; exact hG ((c.w.at d').at d) (SameX.at c.w d))
      exact ⟨c2, r1.trans s1, s2⟩
  | succ n ih =>
    intro q c ⟨hA, g, hg, hG⟩
    obtain ⟨c1, i, d, sl', q', r1, r2, r3, ⟨d', r4⟩, r5, r6⟩ := hA.turn hmo hg (.inl hG.run) (.inr hG.run)
    rcases r5 with ⟨_, hx⟩ | ⟨hik, _⟩
    · cases hx
    · rw [hik] at r6
      rcases hG with hs | ⟨_, hstep⟩
      · obtain ⟨c2, s1, s2⟩ := meets r2 r3 r6 (by rw [r4]; exact hs ((c.w.at d').at d) (SameX.at c.w d))
        exact ⟨c2, r1.trans s1, s2⟩
      · have hs := hstep ((c.w.at d').at d) (SameX.at c.w d)
        cases hgo : stepG P false g ((c.w.at d').at d) with
        | go g' w' es =>
          rw [hgo, goes_go] at hs
          obtain ⟨hd, hG'⟩ := hs
          obtain ⟨c2, s1, s2, s3, s4⟩ := r2.wstep hmo r3 r6 (by rw [r4]; exact hgo) (by rw [r4]; exact hd)
          obtain ⟨c3, t1, t2⟩ := ih ⟨s2, g', s3, by rw [s4]; exact hG'⟩
          exact ⟨c3, (r1.trans s1).trans t1, t2⟩
        | _ => rw [hgo] at hs; exact hs.elim
theorem PhA.waits (h : PhA P D (gor fr cs) wp k q c) {g : Goroutine} (hg : c.gs[k]? = some g) (hrun : g.status = .running) {d : Nat} {sl' : Option (Nat × Nat)} (hst : stepT P c.m = runT P (crowd c.gs (c.w.at d) sl') 0) (hr : AtRecv P D (gor fr cs) fr cs) :
    ∃ c', Runs P c c' ∧ PhA P D (parked (gor fr cs) (recvC D) (.recv true)) wp k q c' ∧ c'.gs[k]? = some g ∧ c'.w = c.w.at d := by
  have hlt0 : 0 < c.gs.size := (Array.getElem?_eq_some_iff.1 h.m0).1
  obtain ⟨s, r, tm, hco⟩ := h.co
  obtain ⟨s', r', tm', hcs⟩ := h.cs
  have hpar : Go.partners (c.gs.setIfInBounds 0 ph) D.o true = [] := h.noPartners (fun e => absurd rfl e) fun _ g' hg' => by rw [hg] at hg'; cases hg'; exact offersAt_of_not_blocked (by rw [hrun]; simp) _ _
  have hrunT := crowd_waits (P := P) (sl := sl') (i := 0) h.m0 (hr.2 (c.w.at d)) (fun cc hcc => by
    have hcc : cc = rcase D.o D.zm := by simpa using hcc
    subst hcc
    exact ways_recv_none (w₁ := c.w.at d) hco hpar)
  obtain ⟨d0, hmask⟩ := h.mask
  exact ⟨_, Runs.one (c' := ⟨c.gs.setIfInBounds 0 (parked (gor fr cs) (recvC D) (.recv true)), c.w.at d, sl', c.t ++ MemOp.ofEvents 0 fr.fn fr.place #[]⟩) (hst.trans hrunT) rfl,
    h.both (m' := parked (gor fr cs) (recvC D) (.recv true)) (g' := g) (by simp [hlt0]) (by rw [Array.getElem?_setIfInBounds_ne (Ne.symm h.k0)]; exact hg) (by simp) (fun j h0 _ => Array.getElem?_setIfInBounds_ne (Ne.symm h0)) (fun op hop => by rw [ofEvents_nil] at hop; simp at hop) ⟨d, hmask.at d⟩ ⟨s, r, tm, hco⟩ ⟨s', r', tm', hcs⟩ h.out h.roc,
    by rw [Array.getElem?_setIfInBounds_ne (Ne.symm h.k0)]; exact hg, rfl⟩
theorem PhC.recv (h : PhC P D (gor fr cs) wp (v :: vs) c) (hr : AtRecv P D (gor fr cs) fr cs) : ∃ c', Runs P c c' ∧ PhC P D (gor (fr.finish (.tuple #[v, .bool true])) cs) wp vs c' := by
  obtain ⟨c1, d, sl', r1, r2, r3⟩ := h.turn rfl
  rcases r2 with ⟨k, q, n, hA, g, hg, hG⟩ | ⟨k, q, hA, v', vs', g2, e, hg, hnext⟩ | ⟨e, _⟩
  · obtain ⟨c2, s1, s2, s3, s4⟩ := hA.waits hg hG.run r3 hr
    obtain ⟨c3, t1, t2⟩ := PhR.meet n ⟨s2, g, s3, by rw [s4]; exact hG.at d⟩
    exact ⟨c3, (r1.trans s1).trans t1, t2⟩
  · cases e
    have hlt : k < c1.gs.size := (Array.getElem?_eq_some_iff.1 hg).1
    have hlt0 : 0 < c1.gs.size := (Array.getElem?_eq_some_iff.1 hA.m0).1
    obtain ⟨s, r, tm, hco⟩ := hA.co
    obtain ⟨s', r', tm', hcs⟩ := hA.cs
    have hp : Go.partners (c1.gs.setIfInBounds 0 ph) D.o true = [(k, 0)] := by
      rw [partners_one (j := k) (g := parked g2 (selC D v) .select) (by rw [Array.getElem?_setIfInBounds_ne (Ne.symm hA.k0)]; exact hg) fun j x hj hx => ?_]
      · rw [offs_sel]; rfl
      · rcases setP_get hx with ⟨_, rfl⟩ | ⟨hne, hx⟩
        · exact offersAt_ph _ _
        · exact hA.offs hne hj hx _ _
    have hrunT := crowd_recv_meets_sel (P := P) (sl := sl') (i := 0) (k := 0) hA.m0 (hr.2 (c1.w.at d)) (show (c1.w.at d).heap[D.o]? = _ from hco) hA.k0 hg rfl hp
    obtain ⟨n, hN⟩ := hnext _ ⟨fun b _ hne => passed_other d (s + 1) (r + 1) tm hne, passed_o ⟨s, r, tm, hco⟩ d (s + 1) (r + 1) tm⟩
    have hA' := hA.both (m' := gor (fr.finish (.tuple #[v, .bool true])) cs) (g' := g2.finishComm P (selC D v) .select 0 undef false) (w' := (c1.w.at d).setChan D.o 0 #[] false (s + 1) (r + 1) tm) (sl' := sl')
      (gs' := (c1.gs.setIfInBounds k (g2.finishComm P (selC D v) .select 0 undef false)).setIfInBounds 0 ((gor fr cs).finishComm P (recvC D) (.recv true) 0 v true))
      (by simp [hlt0]; rfl) (by rw [Array.getElem?_setIfInBounds_ne (Ne.symm hA.k0)]; simp [hlt]) (by simp) (fun j h0 hk => by rw [Array.getElem?_setIfInBounds_ne (Ne.symm h0), Array.getElem?_setIfInBounds_ne (Ne.symm hk)])
      (four_less (g := 0) (fn := g2.frame.fn) (fn' := fr.fn) (fn'' := fr.fn) (pos := g2.frame.place) (pos' := fr.place) (pos'' := fr.place) (a := .send D.o s) (b := .recv D.o r 0) (a' := .sendDone D.o s) (b' := .recvDone D.o r) (g1 := k) (g2 := 0) (g3 := k) (g4 := 0) ⟨rfl, nofun⟩ ⟨rfl, nofun⟩ ⟨rfl, nofun⟩ ⟨rfl, nofun⟩)
      (passed_mask hA.mask d _ _ _) (passed_o ⟨s, r, tm, hco⟩ d _ _ _) ⟨s', r', tm', (passed_other d _ _ _ (Ne.symm D.ne)).trans hcs⟩ hA.out fun b hb => (passed_other d _ _ _ fun e => D.oRO (e ▸ hb)).trans (hA.roc b hb)
    exact ⟨_, r1.trans (Runs.of (r3.trans hrunT)), .inl ⟨k, q, n, hA', _, by rw [Array.getElem?_setIfInBounds_ne (Ne.symm hA.k0)]; simp [hlt], hN⟩⟩
  · cases e
def Freed (D : Deal) (wp w : World) : Prop := (∃ d, Mask D.X (wp.at d) w) ∧ ChO w D.st ∧ w.output = D.out ∧ ∃ s r tm, w.heap[D.o]? = some (.chan 0 #[] true s r tm)
theorem PhZ.recv (h : PhZ P D m wp c) (hr : AtRecv P D m fr cs) : ∃ c' w', Runs P c c' ∧ At0 P (fr.finish (.tuple #[D.zm, .bool false])) cs w' c' ∧ Freed D wp w' := by
  obtain ⟨c1, d, sl', r1, ⟨h0, ⟨d0, hmask⟩, ⟨q, hL⟩, ⟨s, r, tm, hc⟩, hs, hu, _, p, h1, h2, h3⟩, r3⟩ := h.turn hr.1
  have hlt0 : 0 < c1.gs.size := (Array.getElem?_eq_some_iff.1 h0).1
  have hpar : Go.partners (c1.gs.setIfInBounds 0 ph) D.o true = [] := partners_nil fun j g hj => by
    rcases setP_get hj with ⟨_, rfl⟩ | ⟨hne, hg⟩
    · exact offersAt_ph _ _
    · exact offersAt_of_not_blocked (not_blocked (hL.old j g hne hg)) _ _
  have hrunT := crowd_recv_closed (P := P) (sl := sl') (i := 0) h0 (hr.2 (c1.w.at d)) (show (c1.w.at d).heap[D.o]? = _ from hc) hpar
  refine ⟨_, c1.w.at d, r1.trans (Runs.one (c' := ⟨c1.gs.setIfInBounds 0 ((gor fr cs).finishComm P (recvC D) (.recv true) 0 D.zm false), c1.w.at d, sl', c1.t ++ #[{ g := 0, fn := fr.fn, pos := fr.place, act := .recvClosed D.o }]⟩) (r3.trans hrunT) (by
    show c1.t ++ _ = c1.t ++ (MemOp.ofEvents 0 _ _ #[] ++ _)
    rw [ofEvents_nil, Array.empty_append]; rfl)), ⟨by simp [hlt0]; rfl, ⟨d, rfl⟩, ⟨q, fun j x hj hx => ?_, fun j hj => ?_⟩, h1.past h2 h3 rfl rfl⟩, ⟨d, hmask.at d⟩, hs, hu, s, r, tm, hc⟩
  · have hx : (c1.gs.setIfInBounds 0 ((gor fr cs).finishComm P (recvC D) (.recv true) 0 D.zm false))[j]? = some x := hx
    rw [Array.getElem?_setIfInBounds_ne (Ne.symm hj)] at hx
    show QuitsD P (q j) (Deaf (c1.t ++ #[_]) j) x
    rw [Deaf_other c1.t (g' := 0) (Ne.symm hj) _ (fun op hop => by simp at hop; rw [hop])]
    exact hL.old j x hj hx
  · have hj : (c1.gs.setIfInBounds 0 ((gor fr cs).finishComm P (recvC D) (.recv true) 0 D.zm false)).size ≤ j := hj
    simp only [Array.size_setIfInBounds] at hj
    show Deaf (c1.t ++ #[_]) j = 0
    rw [Deaf_other c1.t (g' := 0) (by omega) _ (fun op hop => by simp at hop; rw [hop])]
    exact hL.above j hj
theorem PhR.closes : ∀ (n : Nat) {q : Nat → Nat} {c : Cf}, PhR P D (parked (gor fr cs) (recvC D) (.recv true)) wp [] k q n c → ∃ c', Runs P c c' ∧ PhZ P D { parked (gor fr cs) (recvC D) (.recv true) with status := .running } wp c' := by
  have hmo : MainOk D (parked (gor fr cs) (recvC D) (.recv true)) := .inr ⟨_, rfl⟩
  have hwk : ∀ {g g' : Goroutine} {w' : World}, mayWake P g = true → g'.status ≠ .blocked → g'.status ≠ .waiting → (∃ s r tm, w'.heap[D.o]? = some (.chan 0 #[] true s r tm)) → woken P g g' w' (parked (gor fr cs) (recvC D) (.recv true)) = { parked (gor fr cs) (recvC D) (.recv true) with status := .running } := by
    intro g g' w' h1 h2 h3 ⟨s, r, tm, h4⟩
    unfold woken
    rw [if_pos (by simp [h1, h2, h3])]
    exact again_recv_closed h4
  intro n
  induction n with
  | zero =>
    intro q c ⟨hA, g, hg, hG⟩
    obtain ⟨c1, i, d, sl', q', r1, r2, r3, ⟨d', r4⟩, r5, r6⟩ := hA.turn hmo hg (.inl hG.run) (.inr hG.run)
    rcases r5 with ⟨_, hx⟩ | ⟨hik, _⟩
    · cases hx
    · rw [hik] at r6
      obtain ⟨c2, s1, s2⟩ := r2.shut r3 r6 (by rw [r4]; exact hG ((c.w.at d').at d) (SameX.at c.w d)) fun _ _ => hwk
      exact ⟨c2, r1.trans s1, s2⟩
  | succ n ih =>
    intro q c ⟨hA, g, hg, hG⟩
    obtain ⟨c1, i, d, sl', q', r1, r2, r3, ⟨d', r4⟩, r5, r6⟩ := hA.turn hmo hg (.inl hG.run) (.inr hG.run)
    rcases r5 with ⟨_, hx⟩ | ⟨hik, _⟩
    · cases hx
    · rw [hik] at r6
      rcases hG with hs | ⟨_, hstep⟩
      · obtain ⟨c2, s1, s2⟩ := r2.shut r3 r6 (by rw [r4]; exact hs ((c.w.at d').at d) (SameX.at c.w d)) fun _ _ => hwk
        exact ⟨c2, r1.trans s1, s2⟩
      · have hs := hstep ((c.w.at d').at d) (SameX.at c.w d)
        cases hgo : stepG P false g ((c.w.at d').at d) with
        | go g' w' es =>
          rw [hgo, goes_go] at hs
          obtain ⟨hd, hG'⟩ := hs
          obtain ⟨c2, s1, s2, s3, s4⟩ := r2.wstep hmo r3 r6 (by rw [r4]; exact hgo) (by rw [r4]; exact hd)
          obtain ⟨c3, t1, t2⟩ := ih ⟨s2, g', s3, by rw [s4]; exact hG'⟩
          exact ⟨c3, (r1.trans s1).trans t1, t2⟩
        | _ => rw [hgo] at hs; exact hs.elim
theorem PhC.recvEnd (h : PhC P D (gor fr cs) wp [] c) (hr : AtRecv P D (gor fr cs) fr cs) : ∃ c' w', Runs P c c' ∧ At0 P (fr.finish (.tuple #[D.zm, .bool false])) cs w' c' ∧ Freed D wp w' := by
  obtain ⟨c1, d, sl', r1, r2, r3⟩ := h.turn rfl
  rcases r2 with ⟨k, q, n, hA, g, hg, hG⟩ | ⟨k, q, hA, v', vs', g2, e, hg, hnext⟩ | ⟨_, hZ⟩
  · obtain ⟨c2, s1, s2, s3, s4⟩ := hA.waits hg hG.run r3 hr
    obtain ⟨c3, t1, t2⟩ := PhR.closes n ⟨s2, g, s3, by rw [s4]; exact hG.at d⟩
    obtain ⟨c4, w', u1, u2, u3⟩ := t2.recv ⟨rfl, fun w => (stepG_tries true (recvC D) w).trans (hr.2 w)⟩
    exact ⟨c4, w', ((r1.trans s1).trans t1).trans u1, u2, u3⟩
  · cases e
  · obtain ⟨c4, w', u1, u2, u3⟩ := hZ.recv hr
    exact ⟨c4, w', r1.trans u1, u2, u3⟩
theorem At0.go {w : World} (h : At0 P fr cs w c) {fr' : Frame} {cs' : List Frame} {child : Goroutine} (hgo : ∀ w, stepG P true (gor fr cs) w = .spawn (gor fr' cs') child w #[]) (hmask : Mask D.X wp w) (ho : ChO w D.o) (hs : ChO w D.st) (hout : w.output = D.out) (hro : ∀ b, D.RO b → w.heap[b]? = D.cont b) (hw : ∃ n, HandN P D vs n child w) :
    ∃ c', Runs P c c' ∧ PhC P D (gor fr' cs') wp vs c' := by
  obtain ⟨c1, d, sl', r1, ⟨h0, _, ⟨q, hL⟩, hP⟩, r2⟩ := h.turn
  have hlt0 : 0 < c1.gs.size := (Array.getElem?_eq_some_iff.1 h0).1
  have hrunT := runT_crowd_spawn (P := P) (sl := sl') (i := 0) h0 (show stepG P (0 == 0) (gor fr cs) (w.at d) = _ from hgo _)
  obtain ⟨n, hN⟩ := hw
  have hk : c1.gs.size ≠ 0 := by omega
  have hdk : Deaf c1.t c1.gs.size = 0 := hL.above _ (Nat.le_refl _)
  let x : MemOp := { g := 0, fn := fr.fn, pos := fr.place, act := .go c1.gs.size }
  let y : MemOp := { g := c1.gs.size, fn := child.frame.fn, pos := fr.place, act := .start }
  obtain ⟨t1, t2⟩ := PhT.go hP D.X D.RO hk (x := x) (y := y) rfl rfl rfl rfl hdk
  have hd : ∀ g, Deaf (c1.t ++ #[x, y]) g = Deaf c1.t g := fun g => Deaf_less fun op hop => by
    simp at hop
    rcases hop with rfl | rfl <;> exact nofun
  refine ⟨⟨(c1.gs.setIfInBounds 0 (gor fr' cs')).push child, w.at d, sl', c1.t ++ #[x, y]⟩, r1.trans (Runs.one (r2.trans hrunT) (by
    show c1.t ++ #[x, y] = c1.t ++ ((MemOp.ofEvents 0 _ _ #[]).push x).push y
    rw [ofEvents_nil]; rfl)), .inl ⟨c1.gs.size, q, n, ⟨hk, ?_, ⟨d, ⟨hmask.os, hmask.tape, rfl, hmask.size, hmask.block, hmask.pois⟩⟩, ⟨fun j x hj hx => ?_, fun j hj => ?_⟩, t1, t2, ho, hs, hout, hro⟩, child, ?_, hN.at d⟩⟩
  · show ((c1.gs.setIfInBounds 0 (gor fr' cs')).push child)[0]? = _
    rw [Array.getElem?_push, if_neg (by simp; omega)]
    simp [hlt0]
  · have h0' : j ≠ 0 := fun e => hj (.inl e)
    have hk' : j ≠ c1.gs.size := fun e => hj (.inr e)
    have hx : ((c1.gs.setIfInBounds 0 (gor fr' cs')).push child)[j]? = some x := hx
    rw [Array.getElem?_push, if_neg (by simpa using hk'), Array.getElem?_setIfInBounds_ne (Ne.symm h0')] at hx
    show QuitsD P (q j) (Deaf (c1.t ++ #[_, y]) j) x
    rw [hd]
    exact hL.old j x h0' hx
  · have hj : ((c1.gs.setIfInBounds 0 (gor fr' cs')).push child).size ≤ j := hj
    simp at hj
    show Deaf (c1.t ++ #[x, y]) j = 0
    rw [hd]
    exact hL.above j (by omega)
  · show ((c1.gs.setIfInBounds 0 (gor fr' cs')).push child)[c1.gs.size]? = _
    rw [Array.getElem?_push, if_pos (by simp)]
end
end Go.Ax

namespace Go.Ax
open Go Go.RowKit Go.Conc
structure Fam where
  I : Type
  D : I → Deal
  out : Array (Nat × ByteArray)
  told : I → Nat → Array (Nat × ByteArray)
  inj : ∀ i j n m, told i n = told j m → i = j ∧ n = m
  ne : ∀ i n, told i n ≠ out
  hout : ∀ i, (D i).out = out
section
variable {P : Program} {D : Deal} {F : Fam} {i : F.I} {S : SetS} {VS vs : List Value}
def PhS (P : Program) (D : Deal) (S : SetS) (vs : List Value) : SetS := fun fr cs wp => ∀ c, PhC P D (gor fr cs) wp vs c → ∃ c' fr' cs' w', Runs P c c' ∧ At0 P fr' cs' w' c' ∧ S fr' cs' w'
def Sg (P : Program) (F : Fam) (S : SetS) (VS : List Value) : SetS := fun fr cs w => (w.output = F.out → S fr cs w) ∧ ∀ i n, w.output = F.told i n → PhS P (F.D i) S (VS.drop n) fr cs w
theorem Sg.of {fr : Frame} {cs : List Frame} {w : World} (hw : w.output = F.out) (h : S fr cs w) : Sg P F S VS fr cs w := ⟨fun _ => h, fun i n hn => absurd (hn.symm.trans hw) (F.ne i n)⟩
theorem Sg.ofT {fr : Frame} {cs : List Frame} {w : World} {n : Nat} (hw : w.output = F.told i n) (h : PhS P (F.D i) S (VS.drop n) fr cs w) : Sg P F S VS fr cs w := ⟨fun e => absurd (hw.symm.trans e) (F.ne i n), fun j m hm => by obtain ⟨rfl, rfl⟩ := F.inj _ _ _ _ (hw.symm.trans hm); exact h⟩
theorem NS.down {α : Type} (s : Sem α) : NS 2 P s → NS 1 P s := by
  induction s with
  | pure a => intro _; trivial
  | halt a => intro _; trivial
  | load m a k ih => intro h v; exact ih v (h v)
  | store m a v k ih => intro h; exact ih h
  | new o k ih => intro h; exact ⟨fun h2 => absurd h2 (by omega), fun n => ih n (h.2 n)⟩
  | shape r k ih => intro h; exact ⟨.inl (Nat.le_refl _), fun n => ih n (h.2 n)⟩
  | freeze a n k ih => intro h; exact absurd h.1 (by omega)
  | frozen a k ih => intro h; exact ⟨.inl (Nat.le_refl _), fun n => ih n (h.2 n)⟩
  | getObj r k ih => intro h o; exact ih o (h o)
  | setObj r o k ih => intro h; exact ⟨fun h2 => absurd h2 (by omega), ih h.2⟩
  | choose q k ih => intro h n; exact ih n (h n)
  | sys c k ih => intro h; exact h.elim
  | program k ih => intro h; exact ih P h
  | mark m k ih => intro h; exact ⟨h.1, ih h.2⟩
theorem PhS.step {fr : Frame} {cs : List Frame} {wp : World} {K : Frame → List Frame → World → Prop} (hK : ∀ fr' cs' wp', K fr' cs' wp' → PhS P D S vs fr' cs' wp')
    (hs : ∀ d w, Mask D.X (wp.at d) w → (∀ b, D.RO b → w.heap[b]? = D.cont b) → ∃ fr' cs' w' es wp', stepG P true (gor fr cs) w = .go (gor fr' cs') w' es ∧ (∃ d', Mask D.X (wp'.at d') w') ∧ (∀ b, D.X b → w'.heap[b]? = w.heap[b]?) ∧ w'.output = w.output ∧ (∀ e ∈ es, EvM D e) ∧ K fr' cs' wp') : PhS P D S vs fr cs wp := fun c hc => by
  obtain ⟨c1, fr', cs', wp', r1, r2, r3⟩ := hc.step hs
  obtain ⟨c2, fr2, cs2, w2, s1, s2, s3⟩ := hK _ _ _ r3 c1 r2
  exact ⟨c2, fr2, cs2, w2, r1.trans s1, s2, s3⟩
def starJ (P : Program) (F : Fam) (S : SetS) (VS : List Value) (hS : (besideJ P).closed S) : Judg P where
  main := true
  lvl := 2
  rel a b := ∃ d, b = a.at d
  closed T := T = Sg P F S VS
  refl w := ⟨w.drawn, rfl⟩
  trans a b c h k := by obtain ⟨_, rfl⟩ := h; obtain ⟨d, rfl⟩ := k; exact ⟨d, rfl⟩
  drawn a b h := h
  world T fr cs w w1 hT h hs := by
    subst hT
    obtain ⟨d, rfl⟩ := h
    refine ⟨fun e => (besideJ P).world S fr cs w (w.at d) hS ⟨d, rfl⟩ (hs.1 e), fun i n hn c hc => hs.2 i n hn c ?_⟩
    have hm : ∀ {w' : World}, (∃ d', Mask (F.D i).X ((w.at d).at d') w') → ∃ d', Mask (F.D i).X (w.at d') w' := fun ⟨d', h⟩ => ⟨d', h⟩
    rcases hc with ⟨k, q, n, hA, g⟩ | ⟨k, q, hA, g⟩ | ⟨e, h0, hmask, r⟩
    · exact .inl ⟨k, q, n, { hA with mask := hm hA.mask }, g⟩
    · exact .inr (.inl ⟨k, q, { hA with mask := hm hA.mask }, g⟩)
    · exact .inr (.inr ⟨e, h0, hm hmask, r⟩)
  move0 T fr cs fr' cs' w hT h hn := by
    subst hT
    refine ⟨fun e => (besideJ P).move0 S fr cs fr' cs' w hS h (hn.1 e), fun i n hw => ?_⟩
    refine PhS.step (K := fun fr1 cs1 wp1 => fr1 = fr' ∧ cs1 = cs' ∧ wp1 = w) ?_ fun d w' hmask _ => ⟨fr', cs', w', #[], w, h w', ⟨d, hmask⟩, fun _ _ => rfl, rfl, by simp, rfl, rfl, rfl⟩
    rintro _ _ _ ⟨rfl, rfl, rfl⟩
    exact hn.2 i n hw
  sem T fr cs w α s ok f hT hns hst hun hstep h := by
    subst hT
    have hns2 := hns (by omega)
    refine ⟨fun e => (besideJ P).sem S fr cs w α s ok f hS (fun _ => NS.down s hns2) hst hun hstep fun w1 h1 => ?_, fun i n hn => ?_⟩
    · obtain ⟨q1, q2⟩ := h w1 h1
      obtain ⟨d, rfl⟩ := h1
      exact ⟨q1, q2.1 ((ns_out s hns2 _).trans e)⟩
    · refine PhS.step (K := fun fr1 cs1 wp1 => Sg P F S VS fr1 cs1 wp1 ∧ wp1.output = F.told i n) (fun fr' cs' wp' hK => hK.1.2 i n hK.2) fun d w' hmask _ => ?_
      obtain ⟨q1, q2⟩ := h (w.at d) ⟨d, rfl⟩
      have hbad : ¬ Bad (s.run P (w.at d)) := by
        rintro (⟨m, w2, e⟩ | ⟨u, w2, e⟩)
        · rw [e] at q1; exact hst _ q1
        · rw [e] at q1; exact hun _ q1
      obtain ⟨p1, p2, p3, p4⟩ := ns_frame s hns2 (w.at d) w' #[] hmask hbad (by simp)
      obtain ⟨es, he, hsub⟩ := hstep w' (by rw [p1]; exact q1)
      rw [p1] at he
      exact ⟨_, _, _, es, Result.wd (s.run P (w.at d)), he, ⟨(Result.wd (s.run P (w.at d))).drawn, p2⟩, p3, ns_out s hns2 _, fun e hm => EvM.of (ns_calm s hns2 w' #[] (by simp) e (hsub e hm)) (p4 e (hsub e hm)), q2, (ns_out s hns2 _).trans hn⟩
theorem Sg.closed {hS : (besideJ P).closed S} : (starJ P F S VS hS).closed (Sg P F S VS) := rfl
theorem PhC.alike {m : Goroutine} {wp wp' : World} {c : Cf} (h : PhC P D m wp vs c) (he : ∀ d w, Mask D.X (wp.at d) w → Mask D.X (wp'.at d) w) : PhC P D m wp' vs c := by
  have hm : ∀ {w' : World}, (∃ d', Mask D.X (wp.at d') w') → ∃ d', Mask D.X (wp'.at d') w' := fun ⟨d', h⟩ => ⟨d', he _ _ h⟩
  rcases h with ⟨k, q, n, hA, g⟩ | ⟨k, q, hA, g⟩ | ⟨e, h0, hmask, r⟩
  · exact .inl ⟨k, q, n, { hA with mask := hm hA.mask }, g⟩
  · exact .inr (.inl ⟨k, q, { hA with mask := hm hA.mask }, g⟩)
  · exact .inr (.inr ⟨e, h0, hm hmask, r⟩)
theorem Sg.recv {fr : Frame} {cs : List Frame} {w : World} {n : Nat} {v : Value} (hw : w.output = F.told i n) (hv : VS[n]? = some v) (hr : AtRecv P (F.D i) (gor fr cs) fr cs) (h : Sg P F S VS (fr.finish (.tuple #[v, .bool true])) cs { w with output := F.told i (n + 1) }) : Sg P F S VS fr cs w :=
  .ofT hw fun c hc => by
    have e : VS.drop n = v :: VS.drop (n + 1) := by
      have hlt := (List.getElem?_eq_some_iff.1 hv).1
      rw [List.drop_eq_getElem_cons hlt]
      rw [(List.getElem?_eq_some_iff.1 hv).2]
    rw [e] at hc
    obtain ⟨c1, r1, r2⟩ := hc.recv hr
    obtain ⟨c2, fr2, cs2, w2, s1, s2, s3⟩ := h.2 i (n + 1) rfl c1 (r2.alike fun d w' hm => ⟨hm.os, hm.tape, hm.drawn, hm.size, hm.block, hm.pois⟩)
    exact ⟨c2, fr2, cs2, w2, r1.trans s1, s2, s3⟩
theorem Sg.recvEnd {fr : Frame} {cs : List Frame} {w : World} {n : Nat} (hw : w.output = F.told i n) (hv : VS.length ≤ n) (hr : AtRecv P (F.D i) (gor fr cs) fr cs) (h : ∀ w', Freed (F.D i) w w' → S (fr.finish (.tuple #[(F.D i).zm, .bool false])) cs w') : Sg P F S VS fr cs w :=
  .ofT hw fun c hc => by
    rw [List.drop_eq_nil_of_le hv] at hc
    obtain ⟨c1, w', r1, r2, r3⟩ := hc.recvEnd hr
    exact ⟨c1, _, _, _, r1, r2, h w' r3⟩
theorem Sg.go (i : F.I) (hS : (besideJ P).closed S) {fr fr' : Frame} {cs cs' : List Frame} {w wp : World} {child : Goroutine} (hgo : ∀ w, stepG P true (gor fr cs) w = .spawn (gor fr' cs') child w #[]) (hmask : Mask (F.D i).X wp w) (ho : ChO w (F.D i).o) (hs : ChO w (F.D i).st) (hout : w.output = F.out) (hro : ∀ b, (F.D i).RO b → w.heap[b]? = (F.D i).cont b)
    (hw : ∃ n, HandN P (F.D i) VS n child w) (h : Sg P F S VS fr' cs' { wp with output := F.told i 0 }) : Sg P F S VS fr cs w :=
  .of hout (hS fr cs w fun c hc => by
    obtain ⟨c1, r1, r2⟩ := hc.go hgo hmask ho hs (hout.trans (F.hout i).symm) hro hw
    obtain ⟨c2, fr2, cs2, w2, s1, s2, s3⟩ := h.2 i 0 rfl c1 (r2.alike fun d w' hm => ⟨hm.os, hm.tape, hm.drawn, hm.size, hm.block, hm.pois⟩)
    exact ⟨c2, fr2, cs2, w2, r1.trans s1, s2, s3⟩)
theorem Sg.read {fr fr' : Frame} {cs cs' : List Frame} {w : World} {n : Nat} (hw : w.output = F.told i n) (hs : ∀ w', (∀ b, (F.D i).RO b → w'.heap[b]? = (F.D i).cont b) → ∃ es, stepG P true (gor fr cs) w' = .go (gor fr' cs') w' es ∧ ∀ e ∈ es, EvM (F.D i) e) (h : Sg P F S VS fr' cs' w) : Sg P F S VS fr cs w :=
  .ofT hw (PhS.step (K := fun fr1 cs1 wp1 => fr1 = fr' ∧ cs1 = cs' ∧ wp1 = w) (by rintro _ _ _ ⟨rfl, rfl, rfl⟩; exact h.2 i n hw) fun d w' hmask hro => by
    obtain ⟨es, e1, e2⟩ := hs w' hro
    exact ⟨fr', cs', w', es, w, e1, ⟨d, hmask⟩, fun _ _ => rfl, rfl, e2, rfl, rfl, rfl⟩)
noncomputable def maskW (X : Nat → Prop) (w : World) : World :=
  haveI := fun b => Classical.propDecidable (X b)
  { w with heap := Array.ofFn fun i : Fin w.heap.size => if X i then .cells #[] 0 (0, 0) else w.heap[i] }
theorem maskW_mask {X : Nat → Prop} {w : World} (h : ∀ b, X b → b < w.heap.size) : Mask X (maskW X w) w := by
  refine ⟨rfl, rfl, rfl, by simp [maskW], fun b hb => ?_, fun b hb => ?_⟩
  · by_cases hl : b < w.heap.size
    · simp [maskW, hl, hb]
    · simp [maskW, hl]
  · simp [maskW, h b hb, hb]
end
end Go.Ax

namespace Go.Proofs.YtmiongjabbpmkaaDoor
open Go Go.Conc
open Go.Ax (Deal HandN StopW AtSel AtShut WD EvX SameX ChO selC Served onB)
noncomputable def bodyW : Code := Tryd.f44.body.getD .skip
def bW : Frame := { (default : Frame) with fn := 44, kind := .deferred }
noncomputable def LW : Code := match bodyW with | .seq _ (.seq _ (.block _ (.loop c))) => c | _ => .skip
noncomputable def opsW8 : Array Oper := match LW with | .seq _ (.seq (.block _ (.seq _ (.seq _ (.seq (.region _ ops _) _)))) _) => ops | _ => #[]
noncomputable def RW8 : Code := match LW with | .seq _ (.seq (.block _ (.seq _ (.seq _ (.seq _ c)))) _) => c | _ => .skip
noncomputable def RW3 : Code := match LW with | .seq _ (.seq _ c) => c | _ => .skip
def dealW (N st : Nat) (hst : st < N) (first rate : Int) (out : Array (Nat × ByteArray)) : Deal where
  X b := (N ≤ b ∧ b ≤ N + 5) ∨ b = st
  RO b := b = N + 1 ∨ b = N + 2 ∨ b = N + 3 ∨ b = N + 5
  o := N + 4
  st := st
  z := .slice none 0 0
  z' := .agg #[]
  zm := .slice none 0 0
  out := out
  cont b := if b = N + 1 then some (.cells #[.int .i64 first] 3) else if b = N + 2 then some (.cells #[.int .i64 rate] 3) else if b = N + 3 then some (.cells #[.chan (some st)] 82) else some (.cells #[.chan (some (N + 4))] 83)
  roX := by intro b h; left; omega
  oX := by left; omega
  oRO := by omega
  stX := .inr rfl
  ne := by omega
structure ShW (N st : Nat) (first rate : Int) (s : Value) (w : World) : Prop where
  blk : w.heap[N]? = some (.cells #[s] 22)
  fst : w.cell? ⟨N + 1, 0, none⟩ = some (.int .i64 first)
  rt : w.cell? ⟨N + 2, 0, none⟩ = some (.int .i64 rate)
  sp : w.cell? ⟨N + 3, 0, none⟩ = some (.chan (some st))
  ch : w.cell? ⟨N + 5, 0, none⟩ = some (.chan (some (N + 4)))
  co : ChO w (N + 4)
theorem ShW.b {N st : Nat} {first rate : Int} {s : Value} {w : World} (h : ShW N st first rate s w) : w.cell? ⟨N, 0, none⟩ = some s := by
  unfold World.cell?
  rw [h.blk]
  rfl
theorem ShW.nf {N st : Nat} {first rate : Int} {s : Value} {w : World} (h : ShW N st first rate s w) : w.frozen? ⟨N, 0, none⟩ = false := by
  unfold World.frozen?
  rw [h.blk]
  rfl
theorem ShW.same {N st : Nat} {hst : st < N} {first rate : Int} {out : Array (Nat × ByteArray)} {s : Value} {w w1 : World} (h : ShW N st first rate s w) (hs : SameX (dealW N st hst first rate out).X w w1) : ShW N st first rate s w1 := by
  have key : ∀ b, N ≤ b ∧ b ≤ N + 5 → w1.cell? ⟨b, 0, none⟩ = w.cell? ⟨b, 0, none⟩ := fun b hb => by
    unfold World.cell?
    rw [hs b (.inl hb)]
  exact ⟨(hs N (.inl (by omega))).trans h.blk, (key _ (by omega)).trans h.fst, (key _ (by omega)).trans h.rt, (key _ (by omega)).trans h.sp, (key _ (by omega)).trans h.ch, by obtain ⟨s, r, tm, e⟩ := h.co; exact ⟨s, r, tm, (hs (N + 4) (.inl (by omega))).trans e⟩⟩
theorem ev_slice_h {P : Program} {w : World} {es : Array Event} (t : TypeId) (a : Option Addr) (len cap : Nat) (ht : P.underlying t = some (.slice (P.elem t))) (kh : IntKind) (h : Int) (h0 : 0 ≤ h) (h2 : h ≤ cap) :
    (Instr.sliceAt t (.slice a len cap) none (some (.int kh h)) none).events P w es = es := by
  simp [Instr.sliceAt, Instr.slice, Instr.sliceBounds, Instr.sliceBound, asIntOf, run_underlying ht, h0, h2]
theorem ev_slice_l {P : Program} {w : World} {es : Array Event} (t : TypeId) (a : Option Addr) (len cap : Nat) (ht : P.underlying t = some (.slice (P.elem t))) (kh : IntKind) (h : Int) (h0 : 0 ≤ h) (h2 : h ≤ len) :
    (Instr.sliceAt t (.slice a len cap) (some (.int kh h)) none none).events P w es = es := by
  simp [Instr.sliceAt, Instr.slice, Instr.sliceBounds, Instr.sliceBound, asIntOf, run_underlying ht, h0, h2]
theorem mem_store {P : Program} {w : World} {a : Addr} {t : Option Addr} {n c : Nat} {v' : Value} {e : Event} (hb : w.cell? a = some v') (hnf : w.frozen? a = false) (h : e ∈ (store a (.slice t n c)).events P w #[]) : e = ⟨.cell a, true, false⟩ := by
  rw [events_store (hv := rfl), hb] at h
  simp [hnf] at h
  exact h
theorem ev_min {P : Program} {w : World} {es : Array Event} (ts : Array TypeId) (t : TypeId) (k k' : IntKind) (x y : Int) : (Builtin.min_ ts t #[.int k x, .int k' y]).events P w es = es := by
  unfold Builtin.min_
  rfl
theorem ShW.stored {N st : Nat} {first rate : Int} {s : Value} {w : World} (h : ShW N st first rate s w) (_ : 0 ≤ N) (v : Value) : ShW N st first rate v (w.setCell ⟨N, 0, none⟩ v) := by
  have key : ∀ b, b ≠ N → (w.setCell ⟨N, 0, none⟩ v).cell? ⟨b, 0, none⟩ = w.cell? ⟨b, 0, none⟩ := fun b hb => by
    unfold World.cell?
    rw [Go.Ax.setCell_other w ⟨N, 0, none⟩ v (b := b) hb]
  refine ⟨?_, (key _ (by omega)).trans h.fst, (key _ (by omega)).trans h.rt, (key _ (by omega)).trans h.sp, (key _ (by omega)).trans h.ch, by obtain ⟨s, r, tm, e⟩ := h.co; exact ⟨s, r, tm, (Go.Ax.setCell_other w ⟨N, 0, none⟩ v (b := N + 4) (by show N + 4 ≠ N; omega)).trans e⟩⟩
  have := Go.Ax.setCell_at w ⟨N, 0, none⟩ v
  rw [show (⟨N, 0, none⟩ : Addr).block = N from rfl, h.blk] at this
  rw [this]
  rfl
section
variable (N st : Nat) (hst : st < N) (first rate : Int) (out : Array (Nat × ByteArray))
theorem wd_same {w : World} {es : Array Event} (h : ∀ e ∈ es, EvX (dealW N st hst first rate out) e) : WD (dealW N st hst first rate out) w w es := ⟨rfl, rfl, rfl, rfl, fun _ _ => rfl, rfl, rfl, fun _ _ => rfl, h⟩
theorem evX_read {b : Nat} (h : N ≤ b ∧ b ≤ N + 5) : EvX (dealW N st hst first rate out) ⟨.cell ⟨b, 0, none⟩, false, false⟩ := by
  refine ⟨fun m e => (by cases e), fun a ha _ => ?_⟩
  simp only [MemAct.ofEvent, MemAct.touch?, Option.some.injEq] at ha
  subst ha
  exact ⟨⟨b, rfl, .inl h⟩, fun _ => rfl⟩
theorem wd_store {w : World} {v : Value} {es : Array Event} (h : ∀ e ∈ es, EvX (dealW N st hst first rate out) e) : WD (dealW N st hst first rate out) w (w.setCell ⟨N, 0, none⟩ v) es :=
  ⟨rfl, rfl, rfl, Go.Ax.setCell_size _ _ _, fun b hb => Go.Ax.setCell_other _ _ _ (fun e => hb (.inl (by have : b = N := e; omega))), Go.Ax.setCell_other _ _ _ (show N + 4 ≠ N by omega), Go.Ax.setCell_other _ _ _ (show st ≠ N by omega),
    fun b hb => Go.Ax.setCell_other _ _ _ (by have : b = N + 1 ∨ b = N + 2 ∨ b = N + 3 ∨ b = N + 5 := hb; show b ≠ N; omega), h⟩
theorem evX_write : EvX (dealW N st hst first rate out) ⟨.cell ⟨N, 0, none⟩, true, false⟩ := by
  refine ⟨fun m e => (by cases e), fun a ha _ => ?_⟩
  simp only [MemAct.ofEvent, MemAct.touch?, Option.some.injEq] at ha
  subst ha
  refine ⟨⟨N, rfl, .inl (by omega)⟩, ?_⟩
  rintro ⟨b, hb, hR⟩
  cases hb
  have : N = N + 1 ∨ N = N + 2 ∨ N = N + 3 ∨ N = N + 5 := hR
  omega
abbrev GW (Stop : Goroutine → World → Prop) (n : Nat) (g : Goroutine) (w : World) : Prop := Goes Tryd.prog false (SameX (dealW N st hst first rate out).X) (WD (dealW N st hst first rate out)) Stop n g w
noncomputable def headW (room : Int) (D : List Deferred) (u6 u7 u8 u9 u10 u11 u12 u13 u14 u15 u16 u17 u18 u19 u20 u21 u22 u23 u24 u25 u26 u27 u28 : Value) (cs : List Frame) : Goroutine :=
  G (bW.at ⟨#[.pointer (some ⟨N + 5, 0, none⟩), .pointer (some ⟨N + 1, 0, none⟩), .pointer (some ⟨N, 0, none⟩), .pointer (some ⟨N + 2, 0, none⟩), .pointer (some ⟨N + 3, 0, none⟩), .int .i64 room, u6, u7, u8, u9, u10, u11, u12, u13, u14, u15, u16, u17, u18, u19, u20, u21, u22, u23, u24, u25, u26, u27, u28], D⟩ [.code LW, .inLoop LW, .inBlock 0]) cs
noncomputable def selW (room m : Int) (part stv : Value) (D : List Deferred) (u7 u8 u9 u10 u11 u12 u13 u14 u15 u16 u18 u19 u22 u23 u24 u25 u26 u27 u28 : Value) (cs : List Frame) (rest : List Nat) : Goroutine :=
  G (bW.at ⟨#[.pointer (some ⟨N + 5, 0, none⟩), .pointer (some ⟨N + 1, 0, none⟩), .pointer (some ⟨N, 0, none⟩), .pointer (some ⟨N + 2, 0, none⟩), .pointer (some ⟨N + 3, 0, none⟩), .int .i64 room, .int .i64 m, u7, u8, u9, u10, u11, u12, u13, u14, u15, u16, .chan (some (N + 4)), u18, u19, part, stv, u22, u23, u24, u25, u26, u27, u28], D⟩ [.inRegion opsW8 rest, .code RW8, .inBlock 1, .code RW3, .inLoop LW, .inBlock 0]) cs
set_option maxHeartbeats 4000000 in
set_option maxRecDepth 100000 in
theorem seg_sel (Stop : Goroutine → World → Prop) (n₀ : Nat) (room : Int) (r c : Nat) (a0 : Option Addr) (hr : 0 < r) (hrc : r ≤ c) (hc : c ≤ 9223372036854775807) (mN : Nat) (hmin : (if (r : Int) < room then (r : Int) else room) = (mN : Int)) (hmr : mN ≤ r) (hm0 : (0 : Int) ≤ mN) (hmc : (mN : Int) ≤ c) (D : List Deferred) (u6 u7 u8 u9 u10 u11 u12 u13 u14 u15 u16 u17 u18 u19 u20 u21 u22 u23 u24 u25 u26 u27 u28 : Value) (cs : List Frame) (w : World) (hw : ShW N st first rate (.slice a0 r c) w)
    (next : ∀ (u7 u8 u9 u10 u11 u12 u13 u14 u15 u16 u18 u19 u22 u23 u24 u25 u26 u27 u28 : Value) w', ShW N st first rate (.slice a0 r c) w' → GW N st hst first rate out Stop n₀ (selW N room mN (.slice a0 mN c) (.chan (some st)) D u7 u8 u9 u10 u11 u12 u13 u14 u15 u16 u18 u19 u22 u23 u24 u25 u26 u27 u28 cs [0, 1, 2, 3]) w') :
    GW N st hst first rate out Stop (n₀ + 35) (headW N room D u6 u7 u8 u9 u10 u11 u12 u13 u14 u15 u16 u17 u18 u19 u20 u21 u22 u23 u24 u25 u26 u27 u28 cs) w := by
  simp only [headW, selW, opsW8, RW8, RW3, LW, bodyW, Tryd.f44, Option.getD_some] at next ⊢
  repeat (first
    | (refine Goes.step rfl (fun w₁ h₁ => ?_)
       replace hw := hw.same h₁
       clear h₁
       first
       | rw [stepG_seq] | rw [stepG_skip] | rw [stepG_block] | rw [stepG_loop] | rw [stepG_inLoop] | rw [stepG_inBlock] | rw [stepG_region_end] | rw [stepG_label]
       | (rw [stepG_region]; simp only [List.size_toArray, List.length_cons, List.length_nil, Nat.reduceAdd, Nat.zero_add, List.range, List.range.loop])
       simp only [goes_go]
       refine ⟨wd_same N st hst first rate out (by simp), ?_⟩)
    | (refine Goes.step rfl (fun w₁ h₁ => ?_)
       replace hw := hw.same h₁
       clear h₁
       refine goes_oper_k rfl rfl (by decide) (fun K hK => ?_)
       have hb := hw.b
       have hfst := hw.fst
       have hrt := hw.rt
       have hsp := hw.sp
       have hch := hw.ch
       go_simp
       refine hK _ _ ⟨wd_same N st hst first rate out (fun e he => ?_), ?_⟩
       · have hm := mem_listed he
         simp [go_sem, ev_min, ev_slice_h, ev_slice_l, *] at hm
         try (subst hm; exact evX_read N st hst first rate out (by omega))
       clear hK K hb hfst hrt hsp hch))
  (refine Goes.step rfl (fun w₁ h₁ => ?_)
   replace hw := hw.same h₁
   clear h₁
   rw [stepG_cond (t := true) rfl]
   simp only [goes_go, if_true, if_false, Bool.false_eq_true, ↓reduceIte]
   refine ⟨wd_same N st hst first rate out (by simp), ?_⟩)
  repeat (first
    | (refine Goes.step rfl (fun w₁ h₁ => ?_)
       replace hw := hw.same h₁
       clear h₁
       first
       | rw [stepG_seq] | rw [stepG_skip] | rw [stepG_block] | rw [stepG_loop] | rw [stepG_inLoop] | rw [stepG_inBlock] | rw [stepG_region_end] | rw [stepG_label]
       | (rw [stepG_region]; simp only [List.size_toArray, List.length_cons, List.length_nil, Nat.reduceAdd, Nat.zero_add, List.range, List.range.loop])
       simp only [goes_go]
       refine ⟨wd_same N st hst first rate out (by simp), ?_⟩)
    | (refine Goes.step rfl (fun w₁ h₁ => ?_)
       replace hw := hw.same h₁
       clear h₁
       refine goes_oper_k rfl rfl (by decide) (fun K hK => ?_)
       have hb := hw.b
       have hfst := hw.fst
       have hrt := hw.rt
       have hsp := hw.sp
       have hch := hw.ch
       go_simp
       refine hK _ _ ⟨wd_same N st hst first rate out (fun e he => ?_), ?_⟩
       · have hm := mem_listed he
         simp [go_sem, ev_min, ev_slice_h, ev_slice_l, *] at hm
         try (subst hm; exact evX_read N st hst first rate out (by omega))
       clear hK K hb hfst hrt hsp hch))
  exact next _ _ _ _ _ _ _ _ _ _ _ _ _ _ _ _ _ _ _ _ hw
set_option maxHeartbeats 4000000 in
set_option maxRecDepth 100000 in
theorem seg_next (Stop : Goroutine → World → Prop) (n₀ : Nat) (room : Int) (r c : Nat) (a0 : Option Addr) (mN : Nat) (hm0 : (0 : Int) ≤ mN) (hmr : (mN : Int) ≤ r) (part stv x : Value) (D : List Deferred) (u7 u8 u9 u10 u11 u12 u13 u14 u15 u16 u18 u19 u23 u24 u25 u26 u27 u28 : Value) (cs : List Frame) (w : World) (hw : ShW N st first rate (.slice a0 r c) w)
    (next : ∀ (u6 u7 u8 u9 u10 u11 u12 u13 u14 u15 u16 u17 u18 u19 u20 u21 u22 u23 u24 u25 u26 u27 u28 : Value) w', ShW N st first rate (.slice (if c = mN then a0 else a0.map (·.add mN)) (r - mN) (c - mN)) w' → GW N st hst first rate out Stop n₀ (headW N rate D u6 u7 u8 u9 u10 u11 u12 u13 u14 u15 u16 u17 u18 u19 u20 u21 u22 u23 u24 u25 u26 u27 u28 cs) w') :
    GW N st hst first rate out Stop (n₀ + 19) (selW N room mN part stv D u7 u8 u9 u10 u11 u12 u13 u14 u15 u16 u18 u19 (.tuple #[.int .i64 0, .bool false, x]) u23 u24 u25 u26 u27 u28 cs [1, 2, 3]) w := by
  simp only [headW, selW, opsW8, RW8, RW3, LW, bodyW, Tryd.f44, Option.getD_some] at next ⊢
  repeat (first
    | (refine Goes.step rfl (fun w₁ h₁ => ?_)
       replace hw := hw.same h₁
       clear h₁
       first
       | rw [stepG_seq] | rw [stepG_skip] | rw [stepG_block] | rw [stepG_loop] | rw [stepG_inLoop] | rw [stepG_inBlock] | rw [stepG_region_end] | rw [stepG_label]
       | (rw [stepG_region]; simp only [List.size_toArray, List.length_cons, List.length_nil, Nat.reduceAdd, Nat.zero_add, List.range, List.range.loop])
       simp only [goes_go]
       refine ⟨wd_same N st hst first rate out (by simp), ?_⟩)
    | (refine Goes.step rfl (fun w₁ h₁ => ?_)
       replace hw := hw.same h₁
       clear h₁
       refine goes_oper_k rfl rfl (by decide) (fun K hK => ?_)
       have hb := hw.b
       have hfst := hw.fst
       have hrt := hw.rt
       have hsp := hw.sp
       have hch := hw.ch
       go_simp
       refine hK _ _ ⟨wd_same N st hst first rate out (fun e he => ?_), ?_⟩
       · have hm := mem_listed he
         simp [go_sem, ev_min, ev_slice_h, ev_slice_l, *] at hm
         try (subst hm; exact evX_read N st hst first rate out (by omega))
       clear hK K hb hfst hrt hsp hch))
  (refine Goes.step rfl (fun w₁ h₁ => ?_)
   replace hw := hw.same h₁
   clear h₁
   rw [stepG_cond (t := true) rfl]
   simp only [goes_go, if_true, if_false, Bool.false_eq_true, ↓reduceIte]
   refine ⟨wd_same N st hst first rate out (by simp), ?_⟩)
  repeat (first
    | (refine Goes.step rfl (fun w₁ h₁ => ?_)
       replace hw := hw.same h₁
       clear h₁
       first
       | rw [stepG_seq] | rw [stepG_skip] | rw [stepG_block] | rw [stepG_loop] | rw [stepG_inLoop] | rw [stepG_inBlock] | rw [stepG_region_end] | rw [stepG_label]
       | (rw [stepG_region]; simp only [List.size_toArray, List.length_cons, List.length_nil, Nat.reduceAdd, Nat.zero_add, List.range, List.range.loop])
       simp only [goes_go]
       refine ⟨wd_same N st hst first rate out (by simp), ?_⟩)
    | (refine Goes.step rfl (fun w₁ h₁ => ?_)
       replace hw := hw.same h₁
       clear h₁
       refine goes_oper_k rfl rfl (by decide) (fun K hK => ?_)
       have hb := hw.b
       have hfst := hw.fst
       have hrt := hw.rt
       have hsp := hw.sp
       have hch := hw.ch
       go_simp
       refine hK _ _ ⟨wd_same N st hst first rate out (fun e he => ?_), ?_⟩
       · have hm := mem_listed he
         simp [go_sem, ev_min, ev_slice_h, ev_slice_l, *] at hm
         try (subst hm; exact evX_read N st hst first rate out (by omega))
       clear hK K hb hfst hrt hsp hch))
  (refine Goes.step rfl (fun w₁ h₁ => ?_)
   replace hw := hw.same h₁
   clear h₁
   refine goes_oper_k rfl rfl (by decide) (fun K hK => ?_)
   have hb := hw.b
   have hnf := hw.nf
   go_simp
   refine hK _ _ ⟨wd_store N st hst first rate out (fun e he => ?_), ?_⟩
   · have hm := mem_listed he
     simp [go_sem, *] at hm
     have hm := mem_store hb hnf hm
     subst hm
     exact evX_write N st hst first rate out
   replace hw := hw.stored (by omega) (.slice (if c = mN then a0 else a0.map (·.add mN)) (r - mN) (c - mN))
   clear hK K hb hnf)
  repeat (first
    | (refine Goes.step rfl (fun w₁ h₁ => ?_)
       replace hw := hw.same h₁
       clear h₁
       first
       | rw [stepG_seq] | rw [stepG_skip] | rw [stepG_block] | rw [stepG_loop] | rw [stepG_inLoop] | rw [stepG_inBlock] | rw [stepG_region_end] | rw [stepG_label]
       | (rw [stepG_region]; simp only [List.size_toArray, List.length_cons, List.length_nil, Nat.reduceAdd, Nat.zero_add, List.range, List.range.loop])
       simp only [goes_go]
       refine ⟨wd_same N st hst first rate out (by simp), ?_⟩)
    | (refine Goes.step rfl (fun w₁ h₁ => ?_)
       replace hw := hw.same h₁
       clear h₁
       refine goes_oper_k rfl rfl (by decide) (fun K hK => ?_)
       have hb := hw.b
       have hfst := hw.fst
       have hrt := hw.rt
       have hsp := hw.sp
       have hch := hw.ch
       go_simp
       refine hK _ _ ⟨wd_same N st hst first rate out (fun e he => ?_), ?_⟩
       · have hm := mem_listed he
         simp [go_sem, ev_min, ev_slice_h, ev_slice_l, *] at hm
         try (subst hm; exact evX_read N st hst first rate out (by omega))
       clear hK K hb hfst hrt hsp hch))
  exact next _ _ _ _ _ _ _ _ _ _ _ _ _ _ _ _ _ _ _ _ _ _ _ _ hw
end
end Go.Proofs.YtmiongjabbpmkaaDoor

namespace Go.Proofs.YtmiongjabbpmkaaDoor
open Go Go.Conc
open Go.Ax (Deal HandN StopW AtSel AtShut WD EvX SameX ChO selC Served onB)
noncomputable def botW : Frame := { (default : Frame) with fn := Tryd.prog.funcs.size, defers := [], mode := .panicking [goexitEntry] }
def dClose (N : Nat) : Deferred := { target := .builtin .close #[83] 0 #[false], args := #[.chan (some (N + 4))] }
theorem run_dClose {P : Program} {w : World} (a : Act) {o : Oper} (N : Nat) (hop : o.op = .defer { callee := .builtin .close, args := #[.tmp 7], argTypes := #[83] }) (ht : o.type = 0) (h7 : a.eval (.tmp 7) = .chan (some (N + 4))) :
    (execOp a.eval o).run P w = .ok (.defer (dClose N)) w ∧ (execOp a.eval o).events P w #[] = #[] := by
  unfold execOp
  simp [hop, ht, resolve, dClose, h7]
theorem stepG_dfr {P : Program} {main : Bool} {b : Frame} {a : Act} {k : List Item} {cs : List Frame} {w : World} {ops : Array Oper} {i : Nat} {rest : List Nat} {o : Oper} {d : Deferred} (ho : ops[i]? = some o) (hw : Region.wanted o (yielded ops a.tmps) = true) (hk : b.kind ≠ .early)
    (hr : (execOp a.eval o).run P w = .ok (.defer d) w) (he : (execOp a.eval o).events P w #[] = #[]) :
    stepG P main (G (b.at a (.inRegion ops (i :: rest) :: k)) cs) w = .go (G (b.at (Act.put ⟨a.tmps, d :: a.defers⟩ o.dst undef) (.inRegion ops rest :: k)) cs) w #[] := by
  have hfin : (b.at ⟨a.tmps, d :: a.defers⟩ (.inRegion ops (i :: rest) :: k)).finish undef = b.at (Act.put ⟨a.tmps, d :: a.defers⟩ o.dst undef) (.inRegion ops rest :: k) := by rw [Frame.finish_at, ho]; rfl
  have hk' : (b.kind == CallKind.early) = false := by simpa using hk
  rw [stepG_oper ho hw, ← hfin]
  simp [stepG.apply, hr, he, G, Frame.at, hk', GStep.after, seen_none]
section
variable (N st : Nat) (hst : st < N) (first rate : Int) (out : Array (Nat × ByteArray))
noncomputable def endW (tmps : Array Value) (cs : List Frame) : Goroutine := G { bW.at ⟨tmps, [dClose N]⟩ [] with mode := .returning } cs
set_option maxHeartbeats 4000000 in
set_option maxRecDepth 100000 in
theorem seg_end (Stop : Goroutine → World → Prop) (n₀ : Nat) (room : Int) (c : Nat) (a0 : Option Addr) (u6 u7 u8 u9 u10 u11 u12 u13 u14 u15 u16 u17 u18 u19 u20 u21 u22 u23 u24 u25 u26 u27 u28 : Value) (cs : List Frame) (w : World) (hw : ShW N st first rate (.slice a0 0 c) w)
    (next : ∀ tmps w', ShW N st first rate (.slice a0 0 c) w' → GW N st hst first rate out Stop n₀ (endW N tmps cs) w') :
    GW N st hst first rate out Stop (n₀ + 10) (headW N room [dClose N] u6 u7 u8 u9 u10 u11 u12 u13 u14 u15 u16 u17 u18 u19 u20 u21 u22 u23 u24 u25 u26 u27 u28 cs) w := by
  simp only [headW, LW, bodyW, Tryd.f44, Option.getD_some] at next ⊢
  repeat (first
    | (refine Goes.step rfl (fun w₁ h₁ => ?_)
       replace hw := hw.same h₁
       clear h₁
       first
       | rw [stepG_seq] | rw [stepG_skip] | rw [stepG_block] | rw [stepG_loop] | rw [stepG_inLoop] | rw [stepG_inBlock] | rw [stepG_region_end] | rw [stepG_label]
       | (rw [stepG_region]; simp only [List.size_toArray, List.length_cons, List.length_nil, Nat.reduceAdd, Nat.zero_add, List.range, List.range.loop])
       simp only [goes_go]
       refine ⟨wd_same N st hst first rate out (by simp), ?_⟩)
    | (refine Goes.step rfl (fun w₁ h₁ => ?_)
       replace hw := hw.same h₁
       clear h₁
       refine goes_oper_k rfl rfl (by decide) (fun K hK => ?_)
       have hb := hw.b
       have hfst := hw.fst
       have hrt := hw.rt
       have hsp := hw.sp
       have hch := hw.ch
       go_simp
       refine hK _ _ ⟨wd_same N st hst first rate out (fun e he => ?_), ?_⟩
       · have hm := mem_listed he
         simp [go_sem, ev_min, ev_slice_h, ev_slice_l, *] at hm
         try (subst hm; exact evX_read N st hst first rate out (by omega))
       clear hK K hb hfst hrt hsp hch))
  (refine Goes.step rfl (fun w₁ h₁ => ?_)
   replace hw := hw.same h₁
   clear h₁
   rw [stepG_cond (t := false) rfl]
   simp only [goes_go, if_true, if_false, Bool.false_eq_true, ↓reduceIte]
   refine ⟨wd_same N st hst first rate out (by simp), ?_⟩)
  (refine Goes.step rfl (fun w₁ h₁ => ?_)
   replace hw := hw.same h₁
   apply goes_exit
   · rfl
   refine ⟨wd_same N st hst first rate out (by simp), ?_⟩)
  (refine Goes.step rfl (fun w₁ h₁ => ?_)
   replace hw := hw.same h₁
   rw [stepG_end]
   simp only [goes_go]
   refine ⟨wd_same N st hst first rate out (by simp), ?_⟩)
  exact next _ _ hw
set_option maxHeartbeats 4000000 in
set_option maxRecDepth 100000 in
theorem seg_entry (Stop : Goroutine → World → Prop) (n₀ : Nat) (s : Value) (cs : List Frame) (w : World) (hw : ShW N st first rate s w)
    (next : ∀ (u6 u7 u8 u9 u10 u11 u12 u13 u14 u15 u16 u17 u18 u19 u20 u21 u22 u23 u24 u25 u26 u27 u28 : Value) w', ShW N st first rate s w' → GW N st hst first rate out Stop n₀ (headW N first [dClose N] u6 u7 u8 u9 u10 u11 u12 u13 u14 u15 u16 u17 u18 u19 u20 u21 u22 u23 u24 u25 u26 u27 u28 cs) w') :
    GW N st hst first rate out Stop (n₀ + 12) (G (bW.at ⟨#[.pointer (some ⟨N + 5, 0, none⟩), .pointer (some ⟨N + 1, 0, none⟩), .pointer (some ⟨N, 0, none⟩), .pointer (some ⟨N + 2, 0, none⟩), .pointer (some ⟨N + 3, 0, none⟩), undef, undef, undef, undef, undef, undef, undef, undef, undef, undef, undef, undef, undef, undef, undef, undef, undef, undef, undef, undef, undef, undef, undef, undef], []⟩ [.code bodyW]) cs) w := by
  simp only [headW, LW, bodyW, Tryd.f44, Option.getD_some] at next ⊢
  repeat (first
    | (refine Goes.step rfl (fun w₁ h₁ => ?_)
       replace hw := hw.same h₁
       clear h₁
       first
       | rw [stepG_seq] | rw [stepG_skip] | rw [stepG_block] | rw [stepG_loop] | rw [stepG_inLoop] | rw [stepG_inBlock] | rw [stepG_region_end] | rw [stepG_label]
       | (rw [stepG_region]; simp only [List.size_toArray, List.length_cons, List.length_nil, Nat.reduceAdd, Nat.zero_add, List.range, List.range.loop])
       simp only [goes_go]
       refine ⟨wd_same N st hst first rate out (by simp), ?_⟩)
    | (refine Goes.step rfl (fun w₁ h₁ => ?_)
       replace hw := hw.same h₁
       clear h₁
       refine goes_oper_k rfl rfl (by decide) (fun K hK => ?_)
       have hb := hw.b
       have hfst := hw.fst
       have hrt := hw.rt
       have hsp := hw.sp
       have hch := hw.ch
       go_simp
       refine hK _ _ ⟨wd_same N st hst first rate out (fun e he => ?_), ?_⟩
       · have hm := mem_listed he
         simp [go_sem, ev_min, ev_slice_h, ev_slice_l, *] at hm
         try (subst hm; exact evX_read N st hst first rate out (by omega))
       clear hK K hb hfst hrt hsp hch))
  (refine Goes.step rfl (fun w₁ h₁ => ?_)
   replace hw := hw.same h₁
   clear h₁
   obtain ⟨q1, q2⟩ := run_dClose (P := Tryd.prog) (w := w₁) (o := { dst := none, op := Op.defer { callee := Callee.builtin Builtin.close, args := #[Operand.tmp 7], argTypes := #[83] }, type := 0, pos := "sponge.go:48", after := #[{ on := 0, ground := Ground.data }], guard := none })
     ⟨#[.pointer (some ⟨N + 5, 0, none⟩), .pointer (some ⟨N + 1, 0, none⟩), .pointer (some ⟨N, 0, none⟩), .pointer (some ⟨N + 2, 0, none⟩), .pointer (some ⟨N + 3, 0, none⟩), undef, undef, .chan (some (N + 4)), undef, undef, undef, undef, undef, undef, undef, undef, undef, undef, undef, undef, undef, undef, undef, undef, undef, undef, undef, undef, undef], []⟩ N rfl rfl rfl
   rw [stepG_dfr rfl rfl (by decide) q1 q2]
   simp only [goes_go]
   refine ⟨wd_same N st hst first rate out (by simp), ?_⟩)
  repeat (first
    | (refine Goes.step rfl (fun w₁ h₁ => ?_)
       replace hw := hw.same h₁
       clear h₁
       first
       | rw [stepG_seq] | rw [stepG_skip] | rw [stepG_block] | rw [stepG_loop] | rw [stepG_inLoop] | rw [stepG_inBlock] | rw [stepG_region_end] | rw [stepG_label]
       | (rw [stepG_region]; simp only [List.size_toArray, List.length_cons, List.length_nil, Nat.reduceAdd, Nat.zero_add, List.range, List.range.loop])
       simp only [goes_go]
       refine ⟨wd_same N st hst first rate out (by simp), ?_⟩)
    | (refine Goes.step rfl (fun w₁ h₁ => ?_)
       replace hw := hw.same h₁
       clear h₁
       refine goes_oper_k rfl rfl (by decide) (fun K hK => ?_)
       have hb := hw.b
       have hfst := hw.fst
       have hrt := hw.rt
       have hsp := hw.sp
       have hch := hw.ch
       go_simp
       refine hK _ _ ⟨wd_same N st hst first rate out (fun e he => ?_), ?_⟩
       · have hm := mem_listed he
         simp [go_sem, ev_min, ev_slice_h, ev_slice_l, *] at hm
         try (subst hm; exact evX_read N st hst first rate out (by omega))
       clear hK K hb hfst hrt hsp hch))
  exact next _ _ _ _ _ _ _ _ _ _ _ _ _ _ _ _ _ _ _ _ _ _ _ _ hw
end
end Go.Proofs.YtmiongjabbpmkaaDoor

namespace Go.Proofs.YtmiongjabbpmkaaDoor
open Go Go.Conc
open Go.Ax (Deal HandN StopW AtSel AtShut WD EvX SameX ChO selC Served onB)
def partsV (rate : Nat) : Nat → Option Addr → Nat → Nat → Nat → List Value
  | 0, _, _, _, _ => []
  | f + 1, a, r, c, room => if r = 0 then [] else .slice a (min room r) c :: partsV rate f (if c = min room r then a else a.map (·.add (min room r))) (r - min room r) (c - min room r) rate
section
variable (N st : Nat) (hst : st < N) (first rate : Int) (out : Array (Nat × ByteArray))
theorem sel_run {w : World} (a : Act) {o : Oper} (part : Value) (hop : o.op = .select #[{ chan := .tmp 17, send := some (.tmp 20), elem := 22 }, { chan := .tmp 21, send := none, elem := 84 }] true)
    (h17 : a.eval (.tmp 17) = .chan (some (N + 4))) (h20 : a.eval (.tmp 20) = part) (h21 : a.eval (.tmp 21) = .chan (some st)) :
    (execOp a.eval o).run Tryd.prog w = .ok (.comm (selC (dealW N st hst first rate out) part) true .select) w ∧ (execOp a.eval o).events Tryd.prog w #[] = #[] := by
  unfold execOp
  simp [Act.eval] at h17 h20 h21
  simp [go_sem, hop, selC, scase, rcase, dealW, h17, h20, h21]
set_option maxRecDepth 100000 in
theorem sel_stop {room m : Int} {part : Value} {vs : List Value} {D : List Deferred} {u7 u8 u9 u10 u11 u12 u13 u14 u15 u16 u18 u19 u22 u23 u24 u25 u26 u27 u28 : Value} {cs : List Frame} {w : World}
    (next : ∀ w2, Served (dealW N st hst first rate out) w w2 → ∃ n, HandN Tryd.prog (dealW N st hst first rate out) vs n (selW N room m part (.chan (some st)) D u7 u8 u9 u10 u11 u12 u13 u14 u15 u16 u18 u19 (.tuple #[.int .i64 0, .bool false, .agg #[]]) u23 u24 u25 u26 u27 u28 cs [1, 2, 3]) w2) :
    StopW Tryd.prog (dealW N st hst first rate out) (part :: vs) (selW N room m part (.chan (some st)) D u7 u8 u9 u10 u11 u12 u13 u14 u15 u16 u18 u19 u22 u23 u24 u25 u26 u27 u28 cs [0, 1, 2, 3]) w := by
  refine ⟨rfl, selW N room m part (.chan (some st)) D u7 u8 u9 u10 u11 u12 u13 u14 u15 u16 u18 u19 u22 u23 u24 u25 u26 u27 u28 cs [0, 1, 2, 3], ?_, fun w2 h2 => ?_⟩
  · simp only [selW, opsW8, LW, bodyW, Tryd.f44, Option.getD_some]
    obtain ⟨q1, q2⟩ := sel_run N st hst first rate out (w := w) ⟨#[.pointer (some ⟨N + 5, 0, none⟩), .pointer (some ⟨N + 1, 0, none⟩), .pointer (some ⟨N, 0, none⟩), .pointer (some ⟨N + 2, 0, none⟩), .pointer (some ⟨N + 3, 0, none⟩), .int .i64 room, .int .i64 m, u7, u8, u9, u10, u11, u12, u13, u14, u15, u16, .chan (some (N + 4)), u18, u19, part, .chan (some st), u22, u23, u24, u25, u26, u27, u28], D⟩
      (o := { dst := some 22, op := Op.select #[{ chan := Operand.tmp 17, send := some (Operand.tmp 20), elem := 22 }, { chan := Operand.tmp 21, send := none, elem := 84 }] true, type := 0, pos := "sponge.go:51", after := #[], guard := none }) part rfl rfl rfl rfl
    rw [stepG_comm rfl rfl (by decide) q1]
    simp only [listed, q2, seen_none]
  · have e : Goroutine.finishComm Tryd.prog (selW N room m part (.chan (some st)) D u7 u8 u9 u10 u11 u12 u13 u14 u15 u16 u18 u19 u22 u23 u24 u25 u26 u27 u28 cs [0, 1, 2, 3]) (selC (dealW N st hst first rate out) part) .select 0 undef false =
        selW N room m part (.chan (some st)) D u7 u8 u9 u10 u11 u12 u13 u14 u15 u16 u18 u19 (.tuple #[.int .i64 0, .bool false, .agg #[]]) u23 u24 u25 u26 u27 u28 cs [1, 2, 3] := by
      have hcr : commResult (selC (dealW N st hst first rate out) part) .select 0 undef false = .tuple #[.int .i64 0, .bool false, .agg #[]] := by
        simp [commResult, selC, scase, rcase, dealW, goInt]
      unfold Goroutine.finishComm
      rw [hcr]
      simp only [selW, opsW8, LW, bodyW, Tryd.f44, Option.getD_some]
      rfl
    rw [e]
    exact next w2 h2
theorem quits_bot : QuitsIn Tryd.prog 1 (G botW []) := by
  refine .inr ⟨rfl, { G botW [] with status := .finished }, fun w => ?_, rfl⟩
  simp [G, stepG, unwind, botW, goexitEntry, Frame.catches]
  rfl
theorem quits_end (tmps : Array Value) : QuitsIn Tryd.prog 2 (G { bW.at ⟨tmps, []⟩ [] with mode := .returning } [botW]) := by
  refine .inr ⟨rfl, G botW [], fun w => ?_, quits_bot⟩
  simp [G, stepG, unwind, doReturn, results, Frame.at, bW, botW, Tryd.func44, Tryd.f44, seen, GStep.after, goexitEntry]
set_option maxRecDepth 100000 in
theorem end_stop {tmps : Array Value} {w : World} (hw : ChO w (N + 4)) : StopW Tryd.prog (dealW N st hst first rate out) [] (endW N tmps [botW]) w := by
  obtain ⟨s, r, tm, hc⟩ := hw
  refine ⟨rfl, rfl, G { bW.at ⟨tmps, []⟩ [] with mode := .returning } [botW], #[⟨.obj (N + 4), false, true⟩], s, r, tm, 2, hc, ?_, ?_, QuitsD.of_quitsIn (quits_end tmps)⟩
  · have hr := run_close_open (P := Tryd.prog) #[83] 0 hc
    have he := events_close_open (P := Tryd.prog) (es := #[]) #[83] 0 hc
    have hri : (invoke (dClose N).target (dClose N).args).run Tryd.prog w = .ok (.value (.tuple #[])) { w with heap := w.heap.setIfInBounds (N + 4) (.chan 0 #[] true s r tm) } := by
      show (builtin .close #[83] 0 #[false] #[.chan (some (N + 4))]).run Tryd.prog w = _
      unfold builtin
      simp only [Sem.run_bind, hr, Result.andThen_ok, Sem.run_pure]
    have hei : (invoke (dClose N).target (dClose N).args).events Tryd.prog w #[] = #[⟨.obj (N + 4), false, true⟩, ⟨.obj (N + 4), true, true⟩] := by
      show (builtin .close #[83] 0 #[false] #[.chan (some (N + 4))]).events Tryd.prog w #[] = _
      unfold builtin
      simp only [Sem.events_bind, hr, he, Result.evThen_ok, Sem.events_pure]
      rfl
    have hs : seen Tryd.prog 44 #[(⟨.obj (N + 4), false, true⟩ : Event), ⟨.obj (N + 4), true, true⟩] = #[⟨.obj (N + 4), false, true⟩, ⟨.obj (N + 4), true, true⟩] := seen_eq (by simp [Tryd.func44, Tryd.f44]) (by simp)
    have e0 : (invoke (dClose N).target (dClose N).args).runT Tryd.prog w #[] = (.ok (.value (.tuple #[])) { w with heap := w.heap.setIfInBounds (N + 4) (.chan 0 #[] true s r tm) }, #[⟨.obj (N + 4), false, true⟩, ⟨.obj (N + 4), true, true⟩]) := by
      rw [Sem.runT_eq, hri, hei]
    show stepG Tryd.prog false (G { bW.at ⟨tmps, [dClose N]⟩ [] with mode := .returning } [botW]) w = _
    unfold stepG
    simp only [G, Frame.at]
    unfold unwind
    simp only [dClose]
    unfold callDeferred
    simp only [dClose] at e0
    simp only [e0, bW, hs, GStep.after, Array.append_empty]
    rfl
  · intro e he
    simp at he
    subst he
    refine ⟨fun m e => (by cases e), fun a ha _ => ?_⟩
    simp only [MemAct.ofEvent, MemAct.touch?, Option.some.injEq] at ha
    subst ha
    exact ⟨⟨N + 4, rfl, .inl (by omega)⟩, fun _ => rfl⟩
theorem ShW.served {N st : Nat} {hst : st < N} {first rate : Int} {out : Array (Nat × ByteArray)} {s : Value} {w w2 : World} (h : ShW N st first rate s w) (hs : Served (dealW N st hst first rate out) w w2) : ShW N st first rate s w2 := by
  have key : ∀ b, N ≤ b ∧ b ≤ N + 5 → b ≠ N + 4 → w2.cell? ⟨b, 0, none⟩ = w.cell? ⟨b, 0, none⟩ := fun b hb hne => by
    unfold World.cell?
    rw [hs.1 b (.inl hb) hne]
  exact ⟨(hs.1 N (.inl (by omega)) (by show N ≠ N + 4; omega)).trans h.blk, (key _ (by omega) (by omega)).trans h.fst, (key _ (by omega) (by omega)).trans h.rt, (key _ (by omega) (by omega)).trans h.sp, (key _ (by omega) (by omega)).trans h.ch, hs.2⟩
theorem hand_from (rN : Nat) (hr1 : 1 ≤ rN) : ∀ (f r c room : Nat) (a : Option Addr), r ≤ f → 1 ≤ room → r ≤ c → c ≤ 9223372036854775807 →
    ∃ n, ∀ (u6 u7 u8 u9 u10 u11 u12 u13 u14 u15 u16 u17 u18 u19 u20 u21 u22 u23 u24 u25 u26 u27 u28 : Value) (w : World), ShW N st first (rN : Int) (.slice a r c) w → HandN Tryd.prog (dealW N st hst first (rN : Int) out) (partsV rN f a r c room) n (headW N (room : Int) [dClose N] u6 u7 u8 u9 u10 u11 u12 u13 u14 u15 u16 u17 u18 u19 u20 u21 u22 u23 u24 u25 u26 u27 u28 [botW]) w := by
  have fin : ∀ (c room : Nat) (a : Option Addr), ∃ n, ∀ (u6 u7 u8 u9 u10 u11 u12 u13 u14 u15 u16 u17 u18 u19 u20 u21 u22 u23 u24 u25 u26 u27 u28 : Value) (w : World), ShW N st first (rN : Int) (.slice a 0 c) w → HandN Tryd.prog (dealW N st hst first (rN : Int) out) [] n (headW N (room : Int) [dClose N] u6 u7 u8 u9 u10 u11 u12 u13 u14 u15 u16 u17 u18 u19 u20 u21 u22 u23 u24 u25 u26 u27 u28 [botW]) w := fun c room a =>
    ⟨0 + 10, fun u6 u7 u8 u9 u10 u11 u12 u13 u14 u15 u16 u17 u18 u19 u20 u21 u22 u23 u24 u25 u26 u27 u28 w hw => seg_end N st hst first (rN : Int) out _ 0 (room : Int) c a u6 u7 u8 u9 u10 u11 u12 u13 u14 u15 u16 u17 u18 u19 u20 u21 u22 u23 u24 u25 u26 u27 u28 [botW] w hw fun tmps w' hw' => Goes.stop fun w1 h1 => end_stop N st hst first (rN : Int) out (hw'.same h1).co⟩
  intro f
  induction f with
  | zero =>
    intro r c room a hrf _ _ _
    obtain rfl : r = 0 := by omega
    exact fin c room a
  | succ f ih =>
    intro r c room a hrf hroom hrc hc
    by_cases hr : r = 0
    · subst hr
      exact fin c room a
    · have hm1 : min room r ≤ r := Nat.min_le_right _ _
      have hm2 : 1 ≤ min room r := by rw [Nat.le_min]; omega
      generalize hmN : min room r = mN at hm1 hm2
      have hmin : (if (r : Int) < (room : Int) then (r : Int) else (room : Int)) = (mN : Int) := by
        rw [← hmN]
        split
        · rw [Nat.min_eq_right (by omega)]
        · rw [Nat.min_eq_left (by omega)]
      obtain ⟨n₁, h₁⟩ := ih (r - mN) (c - mN) rN (if c = mN then a else a.map (·.add mN)) (by omega) hr1 (by omega) (by omega)
      have hv : partsV rN (f + 1) a r c room = .slice a mN c :: partsV rN f (if c = mN then a else a.map (·.add mN)) (r - mN) (c - mN) rN := by
        simp only [partsV, if_neg hr, hmN]
      rw [hv]
      exact ⟨0 + 35, fun u6 u7 u8 u9 u10 u11 u12 u13 u14 u15 u16 u17 u18 u19 u20 u21 u22 u23 u24 u25 u26 u27 u28 w hw => seg_sel N st hst first (rN : Int) out _ 0 (room : Int) r c a (by omega) hrc hc mN hmin hm1 (by omega) (by omega) [dClose N] u6 u7 u8 u9 u10 u11 u12 u13 u14 u15 u16 u17 u18 u19 u20 u21 u22 u23 u24 u25 u26 u27 u28 [botW] w hw
        fun v7 v8 v9 v10 v11 v12 v13 v14 v15 v16 v18 v19 v22 v23 v24 v25 v26 v27 v28 w' hw' => Goes.stop fun w1 h1 => sel_stop N st hst first (rN : Int) out fun w2 h2 =>
          ⟨n₁ + 19, seg_next N st hst first (rN : Int) out _ n₁ (room : Int) r c a mN (by omega) (by omega) (.slice a mN c) (.chan (some st)) (.agg #[]) [dClose N] v7 v8 v9 v10 v11 v12 v13 v14 v15 v16 v18 v19 v23 v24 v25 v26 v27 v28 [botW] w2 ((hw'.same h1).served h2)
            fun u6 u7 u8 u9 u10 u11 u12 u13 u14 u15 u16 u17 u18 u19 u20 u21 u22 u23 u24 u25 u26 u27 u28 w3 hw3 => h₁ u6 u7 u8 u9 u10 u11 u12 u13 u14 u15 u16 u17 u18 u19 u20 u21 u22 u23 u24 u25 u26 u27 u28 w3 hw3⟩⟩
def dBorn (N : Nat) : Deferred := { target := .fn (.func 44) #[.pointer (some ⟨N + 5, 0, none⟩), .pointer (some ⟨N + 1, 0, none⟩), .pointer (some ⟨N, 0, none⟩), .pointer (some ⟨N + 2, 0, none⟩), .pointer (some ⟨N + 3, 0, none⟩)], args := #[] }
noncomputable def childW (N : Nat) : Goroutine := { frame := { (default : Frame) with fn := Tryd.prog.funcs.size, defers := [dBorn N], mode := .panicking [goexitEntry] }, callers := [], status := .running, dying := none }
theorem born_gen {P : Program} {f n : FuncId} {fn : Func} {c : Code} {caps : Array Value} (hf : P.funcs[f]? = some fn) (h1 : ¬ fn.name = "runtime.NumGoroutine") (hb : fn.body = some c) (w : World) :
    stepG P false { frame := { (default : Frame) with fn := n, defers := [{ target := .fn (.func f) caps, args := #[] }], mode := .panicking [goexitEntry] }, callers := [], status := .running, dying := none } w =
      .go (G ((baseD f).at { tmps := (#[] ++ caps) ++ Array.replicate (fn.ntmps - (#[] ++ caps).size) undef, defers := [] } [.code c]) [{ (default : Frame) with fn := n, defers := [], mode := .panicking [goexitEntry] }]) w #[] := by
  rw [← enter_atD (#[] ++ caps) hf hb]
  simp [G, stepG, unwind, callDeferred, invoke, callFunc, hf, h1, hb, GStep.after, seen_none]
theorem born_step (w : World) : stepG Tryd.prog false (childW N) w = .go (G (bW.at ⟨#[.pointer (some ⟨N + 5, 0, none⟩), .pointer (some ⟨N + 1, 0, none⟩), .pointer (some ⟨N, 0, none⟩), .pointer (some ⟨N + 2, 0, none⟩), .pointer (some ⟨N + 3, 0, none⟩), undef, undef, undef, undef, undef, undef, undef, undef, undef, undef, undef, undef, undef, undef, undef, undef, undef, undef, undef, undef, undef, undef, undef, undef], []⟩ [.code bodyW]) [botW]) w #[] := by
  have hb : Tryd.f44.body = some bodyW := by kernel_rfl
  have h1 : ¬ Tryd.f44.name = "runtime.NumGoroutine" := by simp [Tryd.f44]
  have e2 : (#[] ++ #[.pointer (some ⟨N + 5, 0, none⟩), .pointer (some ⟨N + 1, 0, none⟩), .pointer (some ⟨N, 0, none⟩), .pointer (some ⟨N + 2, 0, none⟩), .pointer (some ⟨N + 3, 0, none⟩)] : Array Value) ++ Array.replicate (Tryd.f44.ntmps - (#[] ++ #[.pointer (some ⟨N + 5, 0, none⟩), .pointer (some ⟨N + 1, 0, none⟩), .pointer (some ⟨N, 0, none⟩), .pointer (some ⟨N + 2, 0, none⟩), .pointer (some ⟨N + 3, 0, none⟩)] : Array Value).size) undef =
      #[.pointer (some ⟨N + 5, 0, none⟩), .pointer (some ⟨N + 1, 0, none⟩), .pointer (some ⟨N, 0, none⟩), .pointer (some ⟨N + 2, 0, none⟩), .pointer (some ⟨N + 3, 0, none⟩), undef, undef, undef, undef, undef, undef, undef, undef, undef, undef, undef, undef, undef, undef, undef, undef, undef, undef, undef, undef, undef, undef, undef, undef] := by kernel_rfl
  unfold childW dBorn
  rw [born_gen Tryd.func44 h1 hb w, e2]
  rfl
theorem hand_child (fN rN : Nat) (hf1 : 1 ≤ fN) (hr1 : 1 ≤ rN) (r c : Nat) (a : Option Addr) (hrc : r ≤ c) (hc : c ≤ 9223372036854775807) {w : World} (hw : ShW N st (fN : Int) (rN : Int) (.slice a r c) w) :
    ∃ n, HandN Tryd.prog (dealW N st hst (fN : Int) (rN : Int) out) (partsV rN r a r c fN) n (childW N) w := by
  obtain ⟨n, h⟩ := hand_from N st hst (fN : Int) out rN hr1 r r c fN a (Nat.le_refl _) hf1 hrc hc
  refine ⟨n + 12 + 1, Goes.step rfl fun w1 h1 => ?_⟩
  rw [born_step]
  simp only [goes_go]
  exact ⟨wd_same N st hst (fN : Int) (rN : Int) out (by simp), seg_entry N st hst (fN : Int) (rN : Int) out _ n (.slice a r c) [botW] w1 (hw.same h1) h⟩
end
end Go.Proofs.YtmiongjabbpmkaaDoor

namespace Go.Ax
open Go Go.RowKit
structure Grown (w0 : World) (objs : List Obj) (w : World) : Prop where
  os : w.os = w0.os
  tape : w.tape = w0.tape
  output : w.output = w0.output
  heap : w.heap = w0.heap ++ objs.toArray
theorem Grown.refl (w : World) : Grown w [] w := ⟨rfl, rfl, rfl, by simp⟩
theorem Grown.at {w0 w : World} {objs : List Obj} (h : Grown w0 objs w) (d : Nat) : Grown w0 objs (w.at d) := ⟨h.os, h.tape, h.output, h.heap⟩
theorem Grown.alloc {w0 w : World} {objs : List Obj} (h : Grown w0 objs w) (o : Obj) : Grown w0 (objs ++ [o]) (w.alloc o) := ⟨h.os, h.tape, h.output, by simp [World.alloc, h.heap]⟩
theorem Grown.size {w0 w : World} {objs : List Obj} (h : Grown w0 objs w) : w.heap.size = w0.heap.size + objs.length := by rw [h.heap]; simp
theorem Grown.old {w0 w : World} {objs : List Obj} (h : Grown w0 objs w) {b : Nat} (hb : b < w0.heap.size) : w.heap[b]? = w0.heap[b]? := by rw [h.heap, Array.getElem?_append_left hb]
theorem Grown.new {w0 w : World} {objs : List Obj} (h : Grown w0 objs w) (j : Nat) : w.heap[w0.heap.size + j]? = objs[j]? := by rw [h.heap, Array.getElem?_append_right (by omega)]; simp
section
variable {P : Program} {J : Judg P} {ops : Array Oper} {Q : Exit → Act → World → Prop}
theorem ns_makeChan {l : Nat} (t : TypeId) (v : Value) : NS l P (Instr.makeChan t v) := by
  unfold Instr.makeChan
  refine NS.bind (ns_asInt _) fun n => NS.bind (ns_underlying _) fun u => ?_
  split
  · refine NS.bind (ns_typeInfo _) fun i => ?_
    have hn : ∀ m : Nat, NS l P (newObj (.chan m #[] false 0 0 false)) := fun m => ⟨fun _ a t e => (by cases e), fun _ => trivial⟩
    split
    · exact NS.bind (ns_runtimePanic _) fun _ => NS.bind (hn _) fun _ => ns_pure _
    · exact NS.bind (hn _) fun _ => ns_pure _
  · exact ns_stuck _
theorem wl_val {o : Oper} {rest : List Oper} {a : Act} {w : World} {v : Value} {F F' : World → Prop} (hg : o.guard = none) (hns : NS J.lvl P (execOp a.eval o)) (hF : ∀ w1, J.rel w w1 → F w1)
    (hr : ∀ w1, F w1 → ∃ w2, (execOp a.eval o).run P w1 = .ok (.value v) w2 ∧ F' w2) (h : ∀ w2, F' w2 → wpListJ J ops Q rest (a.put o.dst v) w2) : wpListJ J ops Q (o :: rest) a w := by
  have hw : Region.wanted o (yielded ops a.tmps) = true := by simp [Region.wanted, hg]
  unfold wpListJ
  rw [if_pos hw]
  refine ⟨fun _ => hns, fun w1 h1 => ?_⟩
  obtain ⟨w2, e, h2⟩ := hr w1 (hF w1 h1)
  rw [e]
  exact h w2 h2
theorem wl_skip {o : Oper} {rest : List Oper} {a : Act} {w : World} {F F' : World → Prop} (hg : o.guard = none) (hns : NS J.lvl P (execOp a.eval o)) (hF : ∀ w1, J.rel w w1 → F w1)
    (hr : ∀ w1, F w1 → ∃ w2, (execOp a.eval o).run P w1 = .ok .skip w2 ∧ F' w2) (h : ∀ w2, F' w2 → wpListJ J ops Q rest (a.put o.dst undef) w2) : wpListJ J ops Q (o :: rest) a w := by
  have hw : Region.wanted o (yielded ops a.tmps) = true := by simp [Region.wanted, hg]
  unfold wpListJ
  rw [if_pos hw]
  refine ⟨fun _ => hns, fun w1 h1 => ?_⟩
  obtain ⟨w2, e, h2⟩ := hr w1 (hF w1 h1)
  rw [e]
  exact h w2 h2
theorem wl_defer {o : Oper} {rest : List Oper} {a : Act} {w : World} {d : Deferred} {F : World → Prop} (hg : o.guard = none) (hns : NS J.lvl P (execOp a.eval o)) (hF : ∀ w1, J.rel w w1 → F w1)
    (hr : ∀ w1, F w1 → (execOp a.eval o).run P w1 = .ok (.defer d) w1) (h : ∀ w2, F w2 → wpListJ J ops Q rest ({ a with defers := d :: a.defers }.put o.dst undef) w2) : wpListJ J ops Q (o :: rest) a w := by
  have hw : Region.wanted o (yielded ops a.tmps) = true := by simp [Region.wanted, hg]
  unfold wpListJ
  rw [if_pos hw]
  refine ⟨fun _ => hns, fun w1 h1 => ?_⟩
  rw [hr w1 (hF w1 h1)]
  exact h w1 (hF w1 h1)
theorem Judg.opv {S : SetS} (hS : J.closed S) {b : Frame} {a : Act} {i : Nat} {rest : List Nat} {k : List Item} {cs : List Frame} {w : World} {o : Oper} (hb : b.roundOf = none) (ho : ops[i]? = some o) (hg : o.guard = none) (hns : NS J.lvl P (execOp a.eval o))
    (h : ∀ w1, J.rel w w1 → ∃ v w2, (execOp a.eval o).run P w1 = .ok (.value v) w2 ∧ S (b.atR (a.put o.dst v) (.inRegion ops rest :: k)) cs w2) : S (b.atR a (.inRegion ops (i :: rest) :: k)) cs w := by
  have hw : Region.wanted o (yielded ops a.tmps) = true := by simp [Region.wanted, hg]
  refine J.opStep hS (s := execOp a.eval o) (fun w => ?_) (by simp [Frame.atR]) (fun _ => hns) fun w1 h1 => ?_
  · have he := Frame.eval_atR b a (.inRegion ops (i :: rest) :: k)
    simp only [Frame.atR] at he
    simp only [stepG, stepG.exec, stepG.oper, Frame.oper?, Frame.atR, gor, ho, hw, he, Option.map_some, Option.getD_some, if_true]
    rw [hb]
  · obtain ⟨v, w2, e, h2⟩ := h w1 h1
    rw [e]
    refine ⟨trivial, ?_⟩
    have hfin : (b.atR a (.inRegion ops (i :: rest) :: k)).finish v = b.atR (a.put o.dst v) (.inRegion ops rest :: k) := by rw [Frame.finish_atR, ho]; rfl
    show S ((b.atR a (.inRegion ops (i :: rest) :: k)).finish v) cs w2
    rw [hfin]
    exact h2
end
end Go.Ax

namespace Go.Proofs.YtmiongjabbpmkaaDoor
open Go Go.Ax Go.RowKit
set_option linter.unusedSectionVars false
noncomputable def bodyP : Code := Tryd.f28.body.getD .skip
noncomputable def opsP0 : Array Oper := match bodyP with | .seq (.region _ ops _) _ => ops | _ => #[]
noncomputable def opsP1 : Array Oper := match bodyP with | .seq _ (.seq (.region _ ops _) _) => ops | _ => #[]
noncomputable def opsP2 : Array Oper := match bodyP with | .seq _ (.seq _ (.seq (.region _ ops _) _)) => ops | _ => #[]
noncomputable def opsP3 : Array Oper := match bodyP with | .seq _ (.seq _ (.seq _ (.seq (.region _ ops _) _))) => ops | _ => #[]
theorem bodyP_eq : bodyP = .seq (.region 0 opsP0 false) (.seq (.region 1 opsP1 false) (.seq (.region 2 opsP2 false) (.seq (.region 3 opsP3 false) .ret))) := by kernel_rfl
def objsP0 (s : Value) (fN rN : Nat) (st : Nat) : List Obj := [.cells #[s] 22, .cells #[.int .i64 (fN : Int)] 3, .cells #[.int .i64 (rN : Int)] 3, .cells #[.chan (some st)] 82]
def objsP (s : Value) (fN rN : Nat) (st N : Nat) : List Obj := objsP0 s fN rN st ++ [.chan 0 #[] false 0 0 false, .cells #[.chan (some (N + 4))] 83]
theorem _root_.Go.Ax.Grown.setLast {w0 w : World} {objs : List Obj} {x v : Value} {t : TypeId} {n : Nat} (h : Grown w0 (objs ++ [.cells #[x] t]) w) (hn : n = w0.heap.size + objs.length) : Grown w0 (objs ++ [.cells #[v] t]) (w.setCell ⟨n, 0, none⟩ v) := by
  refine ⟨h.os, h.tape, h.output, ?_⟩
  apply Array.ext_getElem?
  intro b
  have hsz := h.size
  by_cases hb : b = n
  · subst hb
    have := setCell_at w ⟨b, 0, none⟩ v
    rw [show (⟨b, 0, none⟩ : Addr).block = b from rfl] at this
    rw [this, hn, h.new objs.length]
    rw [Array.getElem?_append_right (by omega)]
    simp
  · rw [setCell_other w ⟨n, 0, none⟩ v (b := b) hb, h.heap]
    by_cases hlt : b < w0.heap.size
    · rw [Array.getElem?_append_left hlt, Array.getElem?_append_left hlt]
    · rw [Array.getElem?_append_right (by omega), Array.getElem?_append_right (by omega)]
      simp only [List.getElem?_toArray]
      by_cases hb2 : b - w0.heap.size < objs.length
      · rw [List.getElem?_append_left hb2, List.getElem?_append_left hb2]
      · rw [List.getElem?_append_right (by omega), List.getElem?_append_right (by omega)]
        have : b - w0.heap.size - objs.length ≠ 0 := by omega
        obtain ⟨m, hm⟩ := Nat.exists_eq_succ_of_ne_zero this
        rw [hm]; rfl
section
variable {J : Judg Tryd.prog} {Q : Exit → Act → World → Prop}
set_option maxRecDepth 100000 in
theorem parts_r0 (hrel : ∀ a b, J.rel a b → ∃ d, b = a.at d) {s : Value} {fN rN st : Nat} {w0 w : World} (hw : Grown w0 [] w) (hs : ∃ a r c, s = .slice a r c)
    (h : ∀ w2, Grown w0 (objsP0 s fN rN st) w2 → Q .normal ⟨#[s, .int .i64 (fN : Int), .int .i64 (rN : Int), .chan (some st), .pointer (some ⟨w0.heap.size, 0, none⟩), .pointer (some ⟨w0.heap.size + 1, 0, none⟩), .pointer (some ⟨w0.heap.size + 2, 0, none⟩), .pointer (some ⟨w0.heap.size + 3, 0, none⟩), .chan none, undef, undef, undef, undef], []⟩ w2) :
    wpJ J (.region 0 opsP0 false) Q ⟨#[s, .int .i64 (fN : Int), .int .i64 (rN : Int), .chan (some st), undef, undef, undef, undef, undef, undef, undef, undef, undef], []⟩ w := by
  obtain ⟨a0, r0, c0, rfl⟩ := hs
  have hat : ∀ {objs : List Obj} {w : World}, Grown w0 objs w → ∀ w1, J.rel w w1 → Grown w0 objs w1 := fun hw w1 h1 => by obtain ⟨d, rfl⟩ := hrel _ _ h1; exact hw.at d
  refine wpJ_region_list ?_
  simp only [opsP0, bodyP, Tryd.f28, Option.getD_some]
  refine wl_val (F := (Grown w0 [])) (F' := (Grown w0 [Obj.cells #[.slice a0 r0 c0] 22])) (v := .pointer (some ⟨w0.heap.size, 0, none⟩)) rfl (NS.bind (ns_box _ _) fun _ => ns_pure _) (hat hw) (fun w1 h1 => ?_) fun w2 h2 => ?_
  · simp [go_sem, Act.eval]
    exact ⟨_, ⟨by simpa using h1.size, rfl⟩, h1.alloc _⟩
  refine wl_val (F := (Grown w0 [Obj.cells #[.slice a0 r0 c0] 22])) (F' := (Grown w0 [Obj.cells #[.slice a0 r0 c0] 22, Obj.cells #[.int .i64 (fN : Int)] 3])) (v := .pointer (some ⟨w0.heap.size + 1, 0, none⟩)) rfl (NS.bind (ns_box _ _) fun _ => ns_pure _) (hat h2) (fun w1 h1 => ?_) fun w3 h3 => ?_
  · simp [go_sem, Act.eval]
    exact ⟨_, ⟨by simpa using h1.size, rfl⟩, h1.alloc _⟩
  refine wl_val (F := (Grown w0 [Obj.cells #[.slice a0 r0 c0] 22, Obj.cells #[.int .i64 (fN : Int)] 3])) (F' := (Grown w0 [Obj.cells #[.slice a0 r0 c0] 22, Obj.cells #[.int .i64 (fN : Int)] 3, Obj.cells #[.int .i64 (rN : Int)] 3])) (v := .pointer (some ⟨w0.heap.size + 2, 0, none⟩)) rfl (NS.bind (ns_box _ _) fun _ => ns_pure _) (hat h3) (fun w1 h1 => ?_) fun w4 h4 => ?_
  · simp [go_sem, Act.eval]
    exact ⟨_, ⟨by simpa using h1.size, rfl⟩, h1.alloc _⟩
  refine wl_val (F := (Grown w0 [Obj.cells #[.slice a0 r0 c0] 22, Obj.cells #[.int .i64 (fN : Int)] 3, Obj.cells #[.int .i64 (rN : Int)] 3])) (F' := (Grown w0 [Obj.cells #[.slice a0 r0 c0] 22, Obj.cells #[.int .i64 (fN : Int)] 3, Obj.cells #[.int .i64 (rN : Int)] 3, Obj.cells #[.chan (some st)] 82])) (v := .pointer (some ⟨w0.heap.size + 3, 0, none⟩)) rfl (NS.bind (ns_box _ _) fun _ => ns_pure _) (hat h4) (fun w1 h1 => ?_) fun w5 h5 => ?_
  · simp [go_sem, Act.eval]
    exact ⟨_, ⟨by simpa using h1.size, rfl⟩, h1.alloc _⟩
  refine wl_val (F := (Grown w0 [Obj.cells #[.slice a0 r0 c0] 22, Obj.cells #[.int .i64 (fN : Int)] 3, Obj.cells #[.int .i64 (rN : Int)] 3, Obj.cells #[.chan (some st)] 82])) (F' := (Grown w0 [Obj.cells #[.slice a0 r0 c0] 22, Obj.cells #[.int .i64 (fN : Int)] 3, Obj.cells #[.int .i64 (rN : Int)] 3, Obj.cells #[.chan (some st)] 82])) (v := .chan none) rfl (ns_pure _) (hat h5) (fun w1 h1 => ⟨w1, rfl, h1⟩) fun w6 h6 => ?_
  exact h w6 h6
set_option maxRecDepth 100000 in
theorem parts_r1 (hrel : ∀ a b, J.rel a b → ∃ d, b = a.at d) {s : Value} {fN rN st N : Nat} {w0 w : World} (hN : w0.heap.size = N) (hw : Grown w0 (objsP0 s fN rN st) w) {u4 u5 u6 u7 u8 : Value}
    (h : ∀ w2, Grown w0 (objsP s fN rN st N) w2 → Q .normal ⟨#[s, .int .i64 (fN : Int), .int .i64 (rN : Int), .chan (some st), u4, u5, u6, u7, u8, .pointer (some ⟨N + 5, 0, none⟩), .chan (some (N + 4)), undef, undef], []⟩ w2) :
    wpJ J (.region 1 opsP1 false) Q ⟨#[s, .int .i64 (fN : Int), .int .i64 (rN : Int), .chan (some st), u4, u5, u6, u7, u8, undef, undef, undef, undef], []⟩ w := by
  have hat : ∀ {objs : List Obj} {w : World}, Grown w0 objs w → ∀ w1, J.rel w w1 → Grown w0 objs w1 := fun hw w1 h1 => by obtain ⟨d, rfl⟩ := hrel _ _ h1; exact hw.at d
  refine wpJ_region_list ?_
  simp only [opsP1, bodyP, Tryd.f28, Option.getD_some]
  refine wl_val (F := Grown w0 (objsP0 s fN rN st)) (F' := Grown w0 (objsP0 s fN rN st ++ [.chan 0 #[] false 0 0 false])) (v := .chan (some (N + 4))) rfl (NS.bind (ns_makeChan _ _) fun _ => ns_pure _) (hat hw) (fun w1 h1 => ?_) fun w2 h2 => ?_
  · have e : (Instr.makeChan 83 (.int .i64 0)).run Tryd.prog w1 = .ok (.chan (some w1.heap.size)) (w1.alloc (.chan 0 #[] false 0 0 false)) := by kernel_rfl
    simp [go_sem, Act.eval, e]
    exact ⟨_, ⟨by rw [h1.size, hN]; rfl, rfl⟩, h1.alloc _⟩
  refine wl_val (F := Grown w0 (objsP0 s fN rN st ++ [.chan 0 #[] false 0 0 false])) (F' := Grown w0 (objsP0 s fN rN st ++ [.chan 0 #[] false 0 0 false, .cells #[.chan none] 83])) (v := .pointer (some ⟨N + 5, 0, none⟩)) rfl (NS.bind (ns_alloc _ _ _) fun _ => ns_pure _) (hat h2) (fun w1 h1 => ?_) fun w3 h3 => ?_
  · simp [go_sem, Act.eval]
    exact ⟨_, ⟨by rw [h1.size, hN]; rfl, rfl⟩, by have := h1.alloc (.cells #[.chan none] 83); rwa [List.append_assoc] at this⟩
  refine wl_skip (F := Grown w0 (objsP0 s fN rN st ++ [.chan 0 #[] false 0 0 false, .cells #[.chan none] 83])) (F' := Grown w0 (objsP s fN rN st N)) rfl (NS.bind (ns_storeAt _ _ _) fun _ => ns_pure _) (hat h3) (fun w1 h1 => ?_) fun w4 h4 => ?_
  · have hb : w1.heap[N + 5]? = some (.cells #[.chan none] 83) := by rw [← hN]; exact h1.new 5
    have hc : w1.cell? ⟨N + 5, 0, none⟩ = some (.chan none) := by unfold World.cell?; rw [hb]; rfl
    have hf : w1.frozen? ⟨N + 5, 0, none⟩ = false := by unfold World.frozen?; rw [hb]; rfl
    simp [go_sem, Act.eval, hc, hf]
    have e : objsP s fN rN st N = (objsP0 s fN rN st ++ [.chan 0 #[] false 0 0 false]) ++ [.cells #[.chan (some (N + 4))] 83] := by simp [objsP]
    rw [e]
    exact Grown.setLast (objs := objsP0 s fN rN st ++ [.chan 0 #[] false 0 0 false]) (by rw [List.append_assoc]; exact h1) (by rw [hN])
  exact h w4 h4
theorem grown_mask {s : Value} {fN rN st N : Nat} {w0 w : World} (hst : st < N) (hN : w0.heap.size = N) {ff rr : Int} {out : Array (Nat × ByteArray)} (hw : Grown w0 (objsP s fN rN st N) w) : Mask (dealW N st hst ff rr out).X (maskW (dealW N st hst ff rr out).X w) w :=
  maskW_mask fun b hb => by
    have hz := hw.size
    have : (N ≤ b ∧ b ≤ N + 5) ∨ b = st := hb
    have h6 : (objsP s fN rN st N).length = 6 := rfl
    omega
theorem grown_shw {a0 : Option Addr} {r c fN rN st N : Nat} {w0 w : World} (hN : w0.heap.size = N) (hw : Grown w0 (objsP (.slice a0 r c) fN rN st N) w) : ShW N st (fN : Int) (rN : Int) (.slice a0 r c) w := by
  have key : ∀ j o, (objsP (.slice a0 r c) fN rN st N)[j]? = some o → w.heap[N + j]? = some o := fun j o h => by rw [← hN, hw.new j]; exact h
  refine ⟨key 0 _ rfl, ?_, ?_, ?_, ?_, 0, 0, false, key 4 _ rfl⟩
  · unfold World.cell?; rw [show (⟨N + 1, 0, none⟩ : Addr).block = N + 1 from rfl, key 1 _ rfl]; rfl
  · unfold World.cell?; rw [show (⟨N + 2, 0, none⟩ : Addr).block = N + 2 from rfl, key 2 _ rfl]; rfl
  · unfold World.cell?; rw [show (⟨N + 3, 0, none⟩ : Addr).block = N + 3 from rfl, key 3 _ rfl]; rfl
  · unfold World.cell?; rw [show (⟨N + 5, 0, none⟩ : Addr).block = N + 5 from rfl, key 5 _ rfl]; rfl
end
end Go.Proofs.YtmiongjabbpmkaaDoor

namespace Go.Proofs.YtmiongjabbpmkaaDoor
open Go Go.Ax Go.RowKit
set_option linter.unusedSectionVars false
def famW (fN rN : Nat) (out : Array (Nat × ByteArray)) : Fam where
  I := { p : Nat × Nat // p.2 < p.1 }
  D i := dealW i.1.1 i.1.2 i.2 (fN : Int) (rN : Int) out
  out := out
  told i n := ((out.push (i.1.1, ByteArray.empty)).push (i.1.2, ByteArray.empty)).push (n, ByteArray.empty)
  inj i j n m h := by
    have h := congrArg Array.toList h
    simp only [Array.toList_push, List.append_assoc, List.append_cancel_left_eq, List.cons_append, List.nil_append, List.cons.injEq, Prod.mk.injEq] at h
    obtain ⟨⟨h1, _⟩, ⟨h2, _⟩, ⟨h3, _⟩, _⟩ := h
    exact ⟨Subtype.ext (Prod.ext h1 h2), h3⟩
  ne i n h := by
    have := congrArg Array.size h
    simp at this
    omega
  hout _ := rfl
def bP : Frame := { (default : Frame) with fn := 28, kind := .normal, roundOf := none }
section
variable {S : SetS} (hS : (besideJ Tryd.prog).closed S)
set_option maxRecDepth 100000 in
set_option maxHeartbeats 1000000 in
theorem parts_calls {a0 : Option Addr} {r c fN rN : Nat} (hf1 : 1 ≤ fN) (hr1 : 1 ≤ rN) (hrc : r ≤ c) (hc : c ≤ 9223372036854775807) {w : World} {out : Array (Nat × ByteArray)} (hout : w.output = out) {st N : Nat} (hN : w.heap.size = N) (hst : st < N) (hch : ChO w st) :
    CallsJ (starJ Tryd.prog (famW fN rN out) S (partsV rN r a0 r c fN) hS) 28 #[.slice a0 r c, .int .i64 (fN : Int), .int .i64 (rN : Int), .chan (some st)] w fun e w' =>
      e = .returned (.chan (some (N + 4))) ∧ w'.os = w.os ∧ w'.tape = w.tape ∧ w'.output = (famW fN rN out).told ⟨(N, st), hst⟩ 0 ∧ w'.heap.size = N + 6 ∧ ∀ b, b < N → b ≠ st → w'.heap[b]? = w.heap[b]? := by
  intro cf cs T hT hback
  let i : (famW fN rN out).I := ⟨(N, st), hst⟩
  have hrel : ∀ a b, (starJ Tryd.prog (famW fN rN out) S (partsV rN r a0 r c fN) hS).rel a b → ∃ d, b = a.at d := fun a b h => h
  have henter : Frame.enter Tryd.prog 28 #[.slice a0 r c, .int .i64 (fN : Int), .int .i64 (rN : Int), .chan (some st)] .normal = bP.atR ⟨#[.slice a0 r c, .int .i64 (fN : Int), .int .i64 (rN : Int), .chan (some st), undef, undef, undef, undef, undef, undef, undef, undef, undef], []⟩ [.code bodyP] := by
    have hb : Tryd.f28.body = some bodyP := by kernel_rfl
    have e : (#[.slice a0 r c, .int .i64 (fN : Int), .int .i64 (rN : Int), .chan (some st)] : Array Value) ++ Array.replicate (Tryd.f28.ntmps - (#[.slice a0 r c, .int .i64 (fN : Int), .int .i64 (rN : Int), .chan (some st)] : Array Value).size) undef = #[.slice a0 r c, .int .i64 (fN : Int), .int .i64 (rN : Int), .chan (some st), undef, undef, undef, undef, undef, undef, undef, undef, undef] := by kernel_rfl
    rw [← e]
    simp [Frame.enter, Frame.atR, Tryd.func28, hb, bP]
  rw [henter, bodyP_eq]
  refine Judg.move hT (fr' := bP.atR ⟨#[.slice a0 r c, .int .i64 (fN : Int), .int .i64 (rN : Int), .chan (some st), undef, undef, undef, undef, undef, undef, undef, undef, undef], []⟩ (.code (.region 0 opsP0 false) :: .code (.seq (.region 1 opsP1 false) (.seq (.region 2 opsP2 false) (.seq (.region 3 opsP3 false) .ret))) :: [])) (cs' := cf :: cs) (fun w => by simp [stepG, stepG.exec, Frame.atR, gor]) ?_
  refine parts_r0 (J := starJ Tryd.prog (famW fN rN out) S (partsV rN r a0 r c fN) hS) (Q := fun e a' w' => e = .normal ∧ a' = ⟨#[.slice a0 r c, .int .i64 (fN : Int), .int .i64 (rN : Int), .chan (some st), .pointer (some ⟨N, 0, none⟩), .pointer (some ⟨N + 1, 0, none⟩), .pointer (some ⟨N + 2, 0, none⟩), .pointer (some ⟨N + 3, 0, none⟩), .chan none, undef, undef, undef, undef], []⟩ ∧ Grown w (objsP0 (.slice a0 r c) fN rN st) w') hrel (Grown.refl w) ⟨_, _, _, rfl⟩ (fun w2 h2 => ⟨rfl, by rw [hN], h2⟩) bP _ (cf :: cs) T (.inl rfl) hT ?_
  rintro e a' w2 ⟨rfl, rfl, h2⟩
  show T (bP.atR _ (.code (.seq (.region 1 opsP1 false) (.seq (.region 2 opsP2 false) (.seq (.region 3 opsP3 false) .ret))) :: [])) (cf :: cs) w2
  refine Judg.move hT (fr' := bP.atR ⟨#[.slice a0 r c, .int .i64 (fN : Int), .int .i64 (rN : Int), .chan (some st), .pointer (some ⟨N, 0, none⟩), .pointer (some ⟨N + 1, 0, none⟩), .pointer (some ⟨N + 2, 0, none⟩), .pointer (some ⟨N + 3, 0, none⟩), .chan none, undef, undef, undef, undef], []⟩ (.code (.region 1 opsP1 false) :: .code (.seq (.region 2 opsP2 false) (.seq (.region 3 opsP3 false) .ret)) :: [])) (cs' := cf :: cs) (fun w => by simp [stepG, stepG.exec, Frame.atR, gor]) ?_
  refine parts_r1 (J := starJ Tryd.prog (famW fN rN out) S (partsV rN r a0 r c fN) hS) (Q := fun e a' w' => e = .normal ∧ a' = ⟨#[.slice a0 r c, .int .i64 (fN : Int), .int .i64 (rN : Int), .chan (some st), .pointer (some ⟨N, 0, none⟩), .pointer (some ⟨N + 1, 0, none⟩), .pointer (some ⟨N + 2, 0, none⟩), .pointer (some ⟨N + 3, 0, none⟩), .chan none, .pointer (some ⟨N + 5, 0, none⟩), .chan (some (N + 4)), undef, undef], []⟩ ∧ Grown w (objsP (.slice a0 r c) fN rN st N) w') hrel hN h2 (fun w3 h3 => ⟨rfl, rfl, h3⟩) bP _ (cf :: cs) T (.inl rfl) hT ?_
  rintro e a' w3 ⟨rfl, rfl, h3⟩
  show T (bP.atR _ (.code (.seq (.region 2 opsP2 false) (.seq (.region 3 opsP3 false) .ret)) :: [])) (cf :: cs) w3
  refine Judg.move hT (fr' := bP.atR ⟨#[.slice a0 r c, .int .i64 (fN : Int), .int .i64 (rN : Int), .chan (some st), .pointer (some ⟨N, 0, none⟩), .pointer (some ⟨N + 1, 0, none⟩), .pointer (some ⟨N + 2, 0, none⟩), .pointer (some ⟨N + 3, 0, none⟩), .chan none, .pointer (some ⟨N + 5, 0, none⟩), .chan (some (N + 4)), undef, undef], []⟩ (.code (.region 2 opsP2 false) :: .code (.seq (.region 3 opsP3 false) .ret) :: [])) (cs' := cf :: cs) (fun w => by simp [stepG, stepG.exec, Frame.atR, gor]) ?_
  refine Judg.move hT (fr' := bP.atR ⟨#[.slice a0 r c, .int .i64 (fN : Int), .int .i64 (rN : Int), .chan (some st), .pointer (some ⟨N, 0, none⟩), .pointer (some ⟨N + 1, 0, none⟩), .pointer (some ⟨N + 2, 0, none⟩), .pointer (some ⟨N + 3, 0, none⟩), .chan none, .pointer (some ⟨N + 5, 0, none⟩), .chan (some (N + 4)), undef, undef], []⟩ (.inRegion opsP2 [0, 1] :: .code (.seq (.region 3 opsP3 false) .ret) :: [])) (cs' := cf :: cs) (fun w => by simp [stepG, stepG.exec, Frame.atR, gor]; rfl) ?_
  refine Judg.opv (o := { dst := some 11, op := .makeFunc (.func 44) #[] #[.tmp 9, .tmp 5, .tmp 4, .tmp 6, .tmp 7], type := 1, pos := "sponge.go:47", after := #[], guard := none }) hT rfl (by kernel_rfl) rfl (NS.bind (ns_makeFunc _ _ _) fun _ => ns_pure _) fun w4 h4 => ⟨.func (.func 44) #[] #[.pointer (some ⟨N + 5, 0, none⟩), .pointer (some ⟨N + 1, 0, none⟩), .pointer (some ⟨N, 0, none⟩), .pointer (some ⟨N + 2, 0, none⟩), .pointer (some ⟨N + 3, 0, none⟩)], w4, by simp [go_sem, Act.eval], ?_⟩
  have h4 : Grown w (objsP (.slice a0 r c) fN rN st N) w4 := by obtain ⟨d, rfl⟩ := h4; exact h3.at d
  clear h3
  have ho4 : w4.output = out := h4.output.trans hout
  have hsz : w4.heap.size = N + 6 := by have := h4.size; rw [hN] at this; exact this
  subst hT
  refine Sg.go (F := famW fN rN out) i hS (fr' := bP.atR ⟨#[.slice a0 r c, .int .i64 (fN : Int), .int .i64 (rN : Int), .chan (some st), .pointer (some ⟨N, 0, none⟩), .pointer (some ⟨N + 1, 0, none⟩), .pointer (some ⟨N + 2, 0, none⟩), .pointer (some ⟨N + 3, 0, none⟩), .chan none, .pointer (some ⟨N + 5, 0, none⟩), .chan (some (N + 4)), .func (.func 44) #[] #[.pointer (some ⟨N + 5, 0, none⟩), .pointer (some ⟨N + 1, 0, none⟩), .pointer (some ⟨N, 0, none⟩), .pointer (some ⟨N + 2, 0, none⟩), .pointer (some ⟨N + 3, 0, none⟩)], undef], []⟩ (.inRegion opsP2 [] :: .code (.seq (.region 3 opsP3 false) .ret) :: [])) (cs' := cf :: cs) (child := childW N) (fun w => ?_) (grown_mask hst hN h4) ⟨0, 0, false, ?_⟩ ?_ ho4 (fun b hb => ?_) (hand_child N st hst out fN rN hf1 hr1 r c a0 hrc hc (grown_shw hN h4)) ?_
  · have hsp : (execOp (Act.eval ⟨#[.slice a0 r c, .int .i64 (fN : Int), .int .i64 (rN : Int), .chan (some st), .pointer (some ⟨N, 0, none⟩), .pointer (some ⟨N + 1, 0, none⟩), .pointer (some ⟨N + 2, 0, none⟩), .pointer (some ⟨N + 3, 0, none⟩), .chan none, .pointer (some ⟨N + 5, 0, none⟩), .chan (some (N + 4)), .func (.func 44) #[] #[.pointer (some ⟨N + 5, 0, none⟩), .pointer (some ⟨N + 1, 0, none⟩), .pointer (some ⟨N, 0, none⟩), .pointer (some ⟨N + 2, 0, none⟩), .pointer (some ⟨N + 3, 0, none⟩)], undef], []⟩) { dst := none, op := .go { callee := .value (.tmp 11), args := #[], argTypes := #[] }, type := 0, pos := "sponge.go:47", after := #[{ on := 0, ground := .data }], guard := none }).run Tryd.prog w = .ok (.spawn (dBorn N)) w ∧ (execOp (Act.eval ⟨#[.slice a0 r c, .int .i64 (fN : Int), .int .i64 (rN : Int), .chan (some st), .pointer (some ⟨N, 0, none⟩), .pointer (some ⟨N + 1, 0, none⟩), .pointer (some ⟨N + 2, 0, none⟩), .pointer (some ⟨N + 3, 0, none⟩), .chan none, .pointer (some ⟨N + 5, 0, none⟩), .chan (some (N + 4)), .func (.func 44) #[] #[.pointer (some ⟨N + 5, 0, none⟩), .pointer (some ⟨N + 1, 0, none⟩), .pointer (some ⟨N, 0, none⟩), .pointer (some ⟨N + 2, 0, none⟩), .pointer (some ⟨N + 3, 0, none⟩)], undef], []⟩) { dst := none, op := .go { callee := .value (.tmp 11), args := #[], argTypes := #[] }, type := 0, pos := "sponge.go:47", after := #[{ on := 0, ground := .data }], guard := none }).events Tryd.prog w #[] = #[] := by
      unfold execOp
      simp [resolve, Deferred.ofValue, Act.eval, dBorn]
    have := Conc.stepG_spawn (P := Tryd.prog) (main := true) (b := bP) (a := ⟨#[.slice a0 r c, .int .i64 (fN : Int), .int .i64 (rN : Int), .chan (some st), .pointer (some ⟨N, 0, none⟩), .pointer (some ⟨N + 1, 0, none⟩), .pointer (some ⟨N + 2, 0, none⟩), .pointer (some ⟨N + 3, 0, none⟩), .chan none, .pointer (some ⟨N + 5, 0, none⟩), .chan (some (N + 4)), .func (.func 44) #[] #[.pointer (some ⟨N + 5, 0, none⟩), .pointer (some ⟨N + 1, 0, none⟩), .pointer (some ⟨N, 0, none⟩), .pointer (some ⟨N + 2, 0, none⟩), .pointer (some ⟨N + 3, 0, none⟩)], undef], []⟩) (k := .code (.seq (.region 3 opsP3 false) .ret) :: []) (cs := cf :: cs) (w := w) (ops := opsP2) (i := 1) (rest := [])
      (o := { dst := none, op := .go { callee := .value (.tmp 11), args := #[], argTypes := #[] }, type := 0, pos := "sponge.go:47", after := #[{ on := 0, ground := .data }], guard := none }) (d := dBorn N) (w' := w) (f := .func 44) (by kernel_rfl) rfl (by decide) hsp.1 rfl
    simp only [Conc.listed, hsp.2, Conc.seen_none] at this
    exact this
  · have := h4.new 4
    rw [hN] at this
    exact this
  · obtain ⟨s', r', tm', e⟩ := hch
    exact ⟨s', r', tm', (h4.old (by rw [hN]; exact hst)).trans e⟩
  · have key : ∀ j o, (objsP (.slice a0 r c) fN rN st N)[j]? = some o → w4.heap[N + j]? = some o := fun j o h => by rw [← hN, h4.new j]; exact h
    have hb : b = N + 1 ∨ b = N + 2 ∨ b = N + 3 ∨ b = N + 5 := hb
    show w4.heap[b]? = (dealW N st hst (fN : Int) (rN : Int) out).cont b
    rcases hb with rfl | rfl | rfl | rfl
    · rw [key 1 _ rfl]; simp [dealW]
    · rw [key 2 _ rfl]; simp [dealW]
    · rw [key 3 _ rfl]; simp [dealW]
    · rw [key 5 _ rfl]; simp [dealW]
  generalize hwq : ({ maskW (dealW N st hst (fN : Int) (rN : Int) out).X w4 with output := (famW fN rN out).told i 0 } : World) = wq
  have hq : wq.os = w.os ∧ wq.tape = w.tape ∧ wq.output = (famW fN rN out).told i 0 ∧ wq.heap.size = N + 6 ∧ ∀ b, b < N → b ≠ st → wq.heap[b]? = w.heap[b]? := by
    have hm := grown_mask (ff := (fN : Int)) (rr := (rN : Int)) (out := out) hst hN h4
    subst hwq
    refine ⟨hm.os.trans h4.os, hm.tape.trans h4.tape, rfl, hm.size.trans hsz, fun b hb hne => (hm.block b ?_).trans (h4.old (by rw [hN]; exact hb))⟩
    intro hx
    have hx : (N ≤ b ∧ b ≤ N + 5) ∨ b = st := hx
    omega
  clear hwq h4 ho4 hsz
  have hT : (starJ Tryd.prog (famW fN rN out) S (partsV rN r a0 r c fN) hS).closed (Sg Tryd.prog (famW fN rN out) S (partsV rN r a0 r c fN)) := rfl
  refine Judg.move hT (fr' := bP.atR ⟨#[.slice a0 r c, .int .i64 (fN : Int), .int .i64 (rN : Int), .chan (some st), .pointer (some ⟨N, 0, none⟩), .pointer (some ⟨N + 1, 0, none⟩), .pointer (some ⟨N + 2, 0, none⟩), .pointer (some ⟨N + 3, 0, none⟩), .chan none, .pointer (some ⟨N + 5, 0, none⟩), .chan (some (N + 4)), .func (.func 44) #[] #[.pointer (some ⟨N + 5, 0, none⟩), .pointer (some ⟨N + 1, 0, none⟩), .pointer (some ⟨N, 0, none⟩), .pointer (some ⟨N + 2, 0, none⟩), .pointer (some ⟨N + 3, 0, none⟩)], undef], []⟩ (.code (.seq (.region 3 opsP3 false) .ret) :: [])) (cs' := cf :: cs) (fun w => by simp [stepG, stepG.exec, Frame.atR, gor]) ?_
  refine Judg.move hT (fr' := bP.atR ⟨#[.slice a0 r c, .int .i64 (fN : Int), .int .i64 (rN : Int), .chan (some st), .pointer (some ⟨N, 0, none⟩), .pointer (some ⟨N + 1, 0, none⟩), .pointer (some ⟨N + 2, 0, none⟩), .pointer (some ⟨N + 3, 0, none⟩), .chan none, .pointer (some ⟨N + 5, 0, none⟩), .chan (some (N + 4)), .func (.func 44) #[] #[.pointer (some ⟨N + 5, 0, none⟩), .pointer (some ⟨N + 1, 0, none⟩), .pointer (some ⟨N, 0, none⟩), .pointer (some ⟨N + 2, 0, none⟩), .pointer (some ⟨N + 3, 0, none⟩)], undef], []⟩ (.code (.region 3 opsP3 false) :: .code .ret :: [])) (cs' := cf :: cs) (fun w => by simp [stepG, stepG.exec, Frame.atR, gor]) ?_
  refine Judg.move hT (fr' := bP.atR ⟨#[.slice a0 r c, .int .i64 (fN : Int), .int .i64 (rN : Int), .chan (some st), .pointer (some ⟨N, 0, none⟩), .pointer (some ⟨N + 1, 0, none⟩), .pointer (some ⟨N + 2, 0, none⟩), .pointer (some ⟨N + 3, 0, none⟩), .chan none, .pointer (some ⟨N + 5, 0, none⟩), .chan (some (N + 4)), .func (.func 44) #[] #[.pointer (some ⟨N + 5, 0, none⟩), .pointer (some ⟨N + 1, 0, none⟩), .pointer (some ⟨N, 0, none⟩), .pointer (some ⟨N + 2, 0, none⟩), .pointer (some ⟨N + 3, 0, none⟩)], undef], []⟩ (.inRegion opsP3 [0, 1] :: .code .ret :: [])) (cs' := cf :: cs) (fun w => by simp [stepG, stepG.exec, Frame.atR, gor]; rfl) ?_
  refine Sg.read (F := famW fN rN out) (i := i) (n := 0) hq.2.2.1 (fr' := bP.atR ⟨#[.slice a0 r c, .int .i64 (fN : Int), .int .i64 (rN : Int), .chan (some st), .pointer (some ⟨N, 0, none⟩), .pointer (some ⟨N + 1, 0, none⟩), .pointer (some ⟨N + 2, 0, none⟩), .pointer (some ⟨N + 3, 0, none⟩), .chan none, .pointer (some ⟨N + 5, 0, none⟩), .chan (some (N + 4)), .func (.func 44) #[] #[.pointer (some ⟨N + 5, 0, none⟩), .pointer (some ⟨N + 1, 0, none⟩), .pointer (some ⟨N, 0, none⟩), .pointer (some ⟨N + 2, 0, none⟩), .pointer (some ⟨N + 3, 0, none⟩)], .chan (some (N + 4))], []⟩ (.inRegion opsP3 [1] :: .code .ret :: [])) (cs' := cf :: cs) (fun w' hro => ?_) ?_
  · have hb : w'.heap[N + 5]? = some (.cells #[.chan (some (N + 4))] 83) := by
      rw [hro (N + 5) (show N + 5 = N + 1 ∨ N + 5 = N + 2 ∨ N + 5 = N + 3 ∨ N + 5 = N + 5 by omega)]
      show (dealW N st hst (fN : Int) (rN : Int) out).cont (N + 5) = _
      simp [dealW]
    have hcl : w'.cell? ⟨N + 5, 0, none⟩ = some (.chan (some (N + 4))) := by unfold World.cell?; rw [hb]; rfl
    have hr : (execOp (Act.eval ⟨#[.slice a0 r c, .int .i64 (fN : Int), .int .i64 (rN : Int), .chan (some st), .pointer (some ⟨N, 0, none⟩), .pointer (some ⟨N + 1, 0, none⟩), .pointer (some ⟨N + 2, 0, none⟩), .pointer (some ⟨N + 3, 0, none⟩), .chan none, .pointer (some ⟨N + 5, 0, none⟩), .chan (some (N + 4)), .func (.func 44) #[] #[.pointer (some ⟨N + 5, 0, none⟩), .pointer (some ⟨N + 1, 0, none⟩), .pointer (some ⟨N, 0, none⟩), .pointer (some ⟨N + 2, 0, none⟩), .pointer (some ⟨N + 3, 0, none⟩)], undef], []⟩) { dst := some 12, op := .load 83 (.tmp 9), type := 83, pos := "sponge.go:59", after := #[], guard := none }).run Tryd.prog w' = .ok (.value (.chan (some (N + 4)))) w' := by
      simp [go_sem, Act.eval, hcl]
    have := Conc.stepG_value (P := Tryd.prog) (main := true) (b := bP) (a := ⟨#[.slice a0 r c, .int .i64 (fN : Int), .int .i64 (rN : Int), .chan (some st), .pointer (some ⟨N, 0, none⟩), .pointer (some ⟨N + 1, 0, none⟩), .pointer (some ⟨N + 2, 0, none⟩), .pointer (some ⟨N + 3, 0, none⟩), .chan none, .pointer (some ⟨N + 5, 0, none⟩), .chan (some (N + 4)), .func (.func 44) #[] #[.pointer (some ⟨N + 5, 0, none⟩), .pointer (some ⟨N + 1, 0, none⟩), .pointer (some ⟨N, 0, none⟩), .pointer (some ⟨N + 2, 0, none⟩), .pointer (some ⟨N + 3, 0, none⟩)], undef], []⟩) (k := .code .ret :: []) (cs := cf :: cs) (w := w') (ops := opsP3) (i := 0) (rest := [1])
      (o := { dst := some 12, op := .load 83 (.tmp 9), type := 83, pos := "sponge.go:59", after := #[], guard := none }) (by kernel_rfl) rfl (by decide) hr
    refine ⟨_, this, fun e he => ?_⟩
    have hm := Conc.mem_listed he
    simp [go_sem, Act.eval, hcl] at hm
    subst hm
    refine ⟨fun m e => (by cases e), fun b hb' _ => .inr ?_⟩
    simp only [MemAct.ofEvent, MemAct.touch?, Option.some.injEq] at hb'
    subst hb'
    exact ⟨rfl, N + 5, rfl, .inr (.inr (.inr rfl))⟩
  refine Judg.opv (o := { dst := some 8, op := .assign (.tmp 12), type := 68, pos := "sponge.go:59", after := #[{ on := 0, ground := .data }, { on := 0, ground := .phase }], guard := none }) hT rfl (by kernel_rfl) rfl (ns_pure _) fun w5 h5 => ⟨.chan (some (N + 4)), w5, rfl, ?_⟩
  have hq5 : w5.os = w.os ∧ w5.tape = w.tape ∧ w5.output = (famW fN rN out).told i 0 ∧ w5.heap.size = N + 6 ∧ ∀ b, b < N → b ≠ st → w5.heap[b]? = w.heap[b]? := by obtain ⟨d, rfl⟩ := h5; exact hq
  clear hq h5
  change Sg Tryd.prog (famW fN rN out) S (partsV rN r a0 r c fN) (bP.atR ⟨#[.slice a0 r c, .int .i64 (fN : Int), .int .i64 (rN : Int), .chan (some st), .pointer (some ⟨N, 0, none⟩), .pointer (some ⟨N + 1, 0, none⟩), .pointer (some ⟨N + 2, 0, none⟩), .pointer (some ⟨N + 3, 0, none⟩), .chan (some (N + 4)), .pointer (some ⟨N + 5, 0, none⟩), .chan (some (N + 4)), .func (.func 44) #[] #[.pointer (some ⟨N + 5, 0, none⟩), .pointer (some ⟨N + 1, 0, none⟩), .pointer (some ⟨N, 0, none⟩), .pointer (some ⟨N + 2, 0, none⟩), .pointer (some ⟨N + 3, 0, none⟩)], .chan (some (N + 4))], []⟩ (.inRegion opsP3 [] :: .code .ret :: [])) (cf :: cs) w5
  refine Judg.move hT (fr' := bP.atR ⟨#[.slice a0 r c, .int .i64 (fN : Int), .int .i64 (rN : Int), .chan (some st), .pointer (some ⟨N, 0, none⟩), .pointer (some ⟨N + 1, 0, none⟩), .pointer (some ⟨N + 2, 0, none⟩), .pointer (some ⟨N + 3, 0, none⟩), .chan (some (N + 4)), .pointer (some ⟨N + 5, 0, none⟩), .chan (some (N + 4)), .func (.func 44) #[] #[.pointer (some ⟨N + 5, 0, none⟩), .pointer (some ⟨N + 1, 0, none⟩), .pointer (some ⟨N, 0, none⟩), .pointer (some ⟨N + 2, 0, none⟩), .pointer (some ⟨N + 3, 0, none⟩)], .chan (some (N + 4))], []⟩ (.code .ret :: [])) (cs' := cf :: cs) (fun w => by simp [stepG, stepG.exec, Frame.atR, gor]) ?_
  refine Judg.move hT (fr' := { bP.atR ⟨#[.slice a0 r c, .int .i64 (fN : Int), .int .i64 (rN : Int), .chan (some st), .pointer (some ⟨N, 0, none⟩), .pointer (some ⟨N + 1, 0, none⟩), .pointer (some ⟨N + 2, 0, none⟩), .pointer (some ⟨N + 3, 0, none⟩), .chan (some (N + 4)), .pointer (some ⟨N + 5, 0, none⟩), .chan (some (N + 4)), .func (.func 44) #[] #[.pointer (some ⟨N + 5, 0, none⟩), .pointer (some ⟨N + 1, 0, none⟩), .pointer (some ⟨N, 0, none⟩), .pointer (some ⟨N + 2, 0, none⟩), .pointer (some ⟨N + 3, 0, none⟩)], .chan (some (N + 4))], []⟩ (.code .ret :: []) with mode := .returning }) (cs' := cf :: cs) (fun w => by simp [stepG, stepG.exec, Frame.atR, gor, bP]) ?_
  refine AtEnd.back hT (f := 28) hback ⟨rfl, rfl, rfl, Tryd.f28, Tryd.func28, .inl ⟨rfl, fun w6 h6 => ⟨.chan (some (N + 4)), ?_, ?_⟩⟩⟩
  · have hres : Tryd.f28.results = #[.tmp 8] := by kernel_rfl
    simp [results, hres, Frame.atR]
  · obtain ⟨d, rfl⟩ := h6
    exact ⟨rfl, hq5⟩
end
end Go.Proofs.YtmiongjabbpmkaaDoor

namespace Go.Proofs.YtmiongjabbpmkaaDoor
open Go Go.Ax
set_option linter.unusedSectionVars false
noncomputable def bodyWr : Code := Tryd.f9.body.getD .skip
noncomputable def opsWr0 : Array Oper := match bodyWr with | .seq (.region _ ops _) _ => ops | _ => #[]
noncomputable def frontWr : Code := match bodyWr with | .seq _ (.seq c _) => c | _ => .skip
noncomputable def opsWr3 : Array Oper := match bodyWr with | .seq _ (.seq _ (.seq (.region _ ops _) _)) => ops | _ => #[]
noncomputable def opsWr4 : Array Oper := match bodyWr with | .seq _ (.seq _ (.seq _ (.seq (.region _ ops _) _))) => ops | _ => #[]
noncomputable def opsWr5 : Array Oper := match bodyWr with | .seq _ (.seq _ (.seq _ (.seq _ (.seq (.seq (.region _ ops _) _) _)))) => ops | _ => #[]
noncomputable def loopWr : Code := match bodyWr with | .seq _ (.seq _ (.seq _ (.seq _ (.seq (.seq _ (.block _ (.loop c))) _)))) => c | _ => .skip
noncomputable def opsWr6 : Array Oper := match loopWr with | .seq (.region _ ops _) _ => ops | _ => #[]
noncomputable def roundWr : Code := match loopWr with | .seq _ (.seq _ (.block _ c)) => c | _ => .skip
noncomputable def opsWr12 : Array Oper := match bodyWr with | .seq _ (.seq _ (.seq _ (.seq _ (.seq _ (.seq (.region _ ops _) _))))) => ops | _ => #[]
theorem bodyWr_eq : bodyWr = .seq (.region 0 opsWr0 false) (.seq frontWr (.seq (.region 3 opsWr3 false) (.seq (.region 4 opsWr4 false) (.seq (.seq (.region 5 opsWr5 true) (.block 0 (.loop loopWr))) (.seq (.region 12 opsWr12 false) .ret))))) := by kernel_rfl
theorem loopWr_eq : loopWr = .seq (.region 6 opsWr6 false) (.seq (.cond (.tmp 31) .skip (.exit 0)) (.block 1 roundWr)) := by kernel_rfl
section
variable [JW]
noncomputable abbrev cWr (F : List Int → Nat → Int) (X : List (List Int) → Nat → Int) : Cfg := cfgP Tryd.prog JW.J gdA false 2 [8] [(30, Tryd.f30)] [pFV F] [qLXorV X] [] [] []
theorem cokWr : COk (cWr Fn Xn) := cokP mixedM JW.hJ (mem1 ⟨Tryd.func30, by kernel_rfl⟩) (mem1 ps_FV) (mem1 (upD qs_LXor)) mem0 mem0
def cellsS (rate suf : Int) (x : Nat → Int) (at_ : SV) (rd : Bool) : List SV := [.si .i64 rate, .si .i64 suf] ++ (tab 25 x).map (.si .u64) ++ [at_, .sb rd]
def tmW (v1 : Value) (l : List (Nat × AV)) (D : List DE) : TM := ⟨68, (slots 68 ([(0, .one (.ptr 2 0)), (1, .one (.raw v1))] ++ l)).t, D⟩
def kW (ts : List Nat) (kk : AE → List AV → List DE → Nat → Option AB → Out) : AE → TM → Mem → Out := fun e tm mem => kk e (ts.map tm.get) tm.df tm.sz (mem.get 2)
abbrev KK := AE → List AV → List DE → Nat → Option AB → Out
set_option maxRecDepth 100000 in
theorem run_roundWr (F : List Int → Nat → Int) (X : List (List Int) → Nat → Int) (kk : KK) (v1 v6 v29 : Value) (d : Deferred) (rate suf at_ : Int) (x : Nat → Int) (rd : Bool) (M : List Int) :
    exec (cWr F X) 1000 (.run roundWr) (tmW v1 [(6, .one (.raw v6)), (29, .one (.raw v29)), (30, .tup [.one (.slr 3 4 0 M.length), .one (.lb true)])] [.raw d]) (memX gdA [.cells 66 (cellsS rate suf x (.si .i64 at_) rd), .rseq .u8 M 4, .gone]) (kW [0, 1, 6, 29] kk) =
    .need (0 + M.length ≤ M.length) (.need (0 ≤ at_) (.need (1 ≤ (partQ M 0 M.length).length) (.need (at_ + ((partQ M 0 M.length).length : Int) ≤ 200)
      (.br (cmpI .eql (binI .add .i64 at_ (M.length : Int)) rate)
        (kk .normal [.one (.ptr 2 0), .one (.raw v1), .one (.raw v6), .one (.raw v29)] [.raw d] 68 (some (.cells 66 (cellsS rate suf (F (tab 25 (X [tab 25 x, [at_], partQ M 0 M.length]))) (.li .i64 0) rd))))
        (kk .normal [.one (.ptr 2 0), .one (.raw v1), .one (.raw v6), .one (.raw v29)] [.raw d] 68 (some (.cells 66 (cellsS rate suf (X [tab 25 x, [at_], partQ M 0 M.length]) (.si .i64 (binI .add .i64 at_ (M.length : Int))) rd)))))))) := by kernel_rfl
set_option maxRecDepth 100000 in
theorem run_Wr0 (F : List Int → Nat → Int) (X : List (List Int) → Nat → Int) (kk : KK) (v1 : Value) (rate suf at_ : Int) (x : Nat → Int) (rd : Bool) :
    exec (cWr F X) 1000 (.run (.region 0 opsWr0 false)) (tmW v1 [] []) (memX gdA [.cells 66 (cellsS rate suf x (.si .i64 at_) rd)]) (kW [0, 1] kk) =
      kk .normal [.one (.ptr 2 0), .one (.raw v1)] [] 68 (some (.cells 66 (cellsS rate suf x (.si .i64 at_) rd))) := by kernel_rfl
set_option maxRecDepth 100000 in
theorem run_frontWr (F : List Int → Nat → Int) (X : List (List Int) → Nat → Int) (kk : KK) (v1 : Value) (rate suf at_ : Int) (x : Nat → Int) (rd : Bool) :
    exec (cWr F X) 1000 (.run frontWr) (tmW v1 [] []) (memX gdA [.cells 66 (cellsS rate suf x (.si .i64 at_) rd)]) (kW [0, 1, 4, 5] kk) =
      .br rd (kk .ret [.one (.ptr 2 0), .one (.raw v1), .one (.li .i64 0), .one (.li .i64 5)] [] 68 (some (.cells 66 (cellsS rate suf x (.si .i64 at_) rd))))
        (kk .normal [.one (.ptr 2 0), .one (.raw v1), .any, .any] [] 68 (some (.cells 66 (cellsS rate suf x (.si .i64 at_) rd)))) := by kernel_rfl
set_option maxRecDepth 100000 in
theorem run_Wr5 (F : List Int → Nat → Int) (X : List (List Int) → Nat → Int) (kk : KK) (v1 v6 : Value) (d : Deferred) (rate suf at_ : Int) (x : Nat → Int) (rd : Bool) :
    openRun (cWr F X) opsWr5 3 ⟨3 + 0, (memX gdA [.cells 66 (cellsS rate suf x (.si .i64 at_) rd)]).t⟩ ((opsWr5.toList.drop 0).take (15 - 0)) 0 (tmW v1 [(6, .one (.raw v6))] [.raw d]) ⟨3 + 0, (memX gdA [.cells 66 (cellsS rate suf x (.si .i64 at_) rd)]).t⟩ (fun tm mem => kW [0, 1, 6, 14, 23, 27, 28] kk .normal tm mem) =
      kk .normal [.one (.ptr 2 0), .one (.raw v1), .one (.raw v6), .one (.raw v1), .one (.si .i64 (binI .sub .i64 rate at_)), .one (.si .i64 rate), .one (.raw v6)] [.raw d] 68 (some (.cells 66 (cellsS rate suf x (.si .i64 at_) rd))) := by kernel_rfl
theorem head_Wr5 : backB opsWr5 = true ∧ pivotB opsWr5 0 15 = true ∧ segB opsWr5 (15 - 0) 0 (firstsA opsWr5 0) = true ∧ opsWr5.size = 16 ∧ Region.ready .any opsWr5 (firstsA opsWr5 15) = [15] := ⟨by kernel_rfl, by kernel_rfl, by kernel_rfl, by kernel_rfl, by kernel_rfl⟩
end
end Go.Proofs.YtmiongjabbpmkaaDoor

namespace Go.Proofs.YtmiongjabbpmkaaDoor
open Go Go.Ax
set_option linter.unusedSectionVars false
def spV (rate suf : Int) (x : Nat → Int) (at_ : Int) (rd : Bool) : List Value := [.int .i64 rate, .int .i64 suf] ++ (tab 25 x).map (.int .u64) ++ [.int .i64 at_, .bool rd]
structure SpOk (rate suf : Int) (x : Nat → Int) (at_ : Int) : Prop where
  r : okI .i64 rate
  s : okI .i64 suf
  x : ∀ n ∈ tab 25 x, okI .u64 n
  a : okI .i64 at_
structure SpAt (sb : Nat) (rate suf : Int) (x : Nat → Int) (at_ : Int) (rd : Bool) (w : World) : Prop where
  blk : w.heap[sb]? = some (.cells (spV rate suf x at_ rd).toArray 66 (0, 0))
  ok : SpOk rate suf x at_
theorem all2_app {α β : Type} {R : α → β → Prop} : ∀ {l l' : List α} {m m' : List β}, All2 R l m → All2 R l' m' → All2 R (l ++ l') (m ++ m')
  | [], _, [], _, _, h => h
  | _ :: _, _, _ :: _, _, h, h' => ⟨h.1, all2_app h.2 h'⟩
  | [], _, _ :: _, _, h, _ => h.elim
  | _ :: _, _, [], _, h, _ => h.elim
theorem all2_si {env : Nat → Nat} {m : Nat} {k : IntKind} : ∀ {L : List Int}, (∀ n ∈ L, okI k n) → All2 (SV.R env m) (L.map (.si k)) (L.map (.int k))
  | [], _ => trivial
  | n :: L, h => ⟨⟨h n (List.mem_cons_self ..), rfl⟩, all2_si fun x hx => h x (List.mem_cons_of_mem _ hx)⟩
theorem all2_si_of {env : Nat → Nat} {m : Nat} {k : IntKind} : ∀ {L : List Int} {vs : List Value}, All2 (SV.R env m) (L.map (.si k)) vs → vs = L.map (.int k) ∧ ∀ n ∈ L, okI k n
  | [], [], _ => ⟨rfl, fun _ h => by cases h⟩
  | [], _ :: _, h => h.elim
  | _ :: _, [], h => h.elim
  | n :: L, v :: vs, h => by
    obtain ⟨e, q⟩ := all2_si_of h.2
    obtain ⟨h1, rfl⟩ := h.1
    refine ⟨by rw [e]; rfl, fun x hx => ?_⟩
    rcases List.mem_cons.1 hx with rfl | hx
    · exact h1
    · exact q x hx
theorem all2_split {α β : Type} {R : α → β → Prop} : ∀ {l l' : List α} {m : List β}, All2 R (l ++ l') m → ∃ m1 m2, m = m1 ++ m2 ∧ All2 R l m1 ∧ All2 R l' m2
  | [], _, m, h => ⟨[], m, rfl, trivial, h⟩
  | _ :: _, _, [], h => h.elim
  | a :: l, l', b :: m, h => by
    obtain ⟨m1, m2, e, h1, h2⟩ := all2_split h.2
    exact ⟨b :: m1, m2, by rw [e]; rfl, ⟨h.1, h1⟩, h2⟩
theorem cellsS_R {env : Nat → Nat} {m : Nat} {rate suf : Int} {x : Nat → Int} {at_ : Int} {rd : Bool} (h : SpOk rate suf x at_) : All2 (SV.R env m) (cellsS rate suf x (.si .i64 at_) rd) (spV rate suf x at_ rd) :=
  all2_app (all2_app ⟨⟨h.r, rfl⟩, ⟨h.s, rfl⟩, trivial⟩ (all2_si h.x)) ⟨⟨h.a, rfl⟩, ⟨trivial, rfl⟩, trivial⟩
theorem cellsS_of {env : Nat → Nat} {m : Nat} {rate suf : Int} {x : Nat → Int} {at_ : Int} {rd : Bool} {s : SV} (hs : s = .si .i64 at_ ∨ s = .li .i64 at_) {vs : List Value} (h : All2 (SV.R env m) (cellsS rate suf x s rd) vs) : vs = spV rate suf x at_ rd ∧ SpOk rate suf x at_ := by
  unfold cellsS at h
  obtain ⟨m1, m2, rfl, h1, h2⟩ := all2_split h
  obtain ⟨m3, m4, rfl, h3, h4⟩ := all2_split h1
  obtain ⟨rfl, hx⟩ := all2_si_of h4
  match m3, h3 with
  | [a, b], ⟨⟨ha, ea⟩, ⟨hb, eb⟩, _⟩ =>
    match m2, h2 with
    | [c, d], ⟨hc, ⟨_, ed⟩, _⟩ =>
      have hc : okI .i64 at_ ∧ c = .int .i64 at_ := by rcases hs with rfl | rfl <;> exact hc
      subst ea eb ed
      rw [hc.2]
      exact ⟨rfl, ha, hb, hx, hc.1⟩
def TmF (a : Act) (l : List (Nat × Value)) : Prop := a.tmps.size = 68 ∧ ∀ p ∈ l, a.tmps.getD p.1 undef = p.2
theorem TmF.eval {a : Act} {l : List (Nat × Value)} (h : TmF a l) {t : Nat} {v : Value} (hm : (t, v) ∈ l) : a.eval (.tmp t) = v := h.2 _ hm
theorem TmF.put {a : Act} {l l' : List (Nat × Value)} (h : TmF a l) {t : Nat} {v : Value} (ht : t < 68) (hl : ∀ p ∈ l', p = (t, v) ∨ (p ∈ l ∧ p.1 ≠ t)) : TmF (a.put (some t) v) l' := by
  refine ⟨by simp [Act.put, h.1], fun p hp => ?_⟩
  rcases hl p hp with rfl | ⟨h1, h2⟩
  · simp [Act.put, h.1, ht]
  · have := h.2 p h1
    simp only [Act.put, Array.getD_eq_getD_getElem?]
    rw [Array.getElem?_setIfInBounds_ne (Ne.symm h2), ← Array.getD_eq_getD_getElem?]
    exact this
section
variable [JW]
abbrev Bw (sb : Nat) (w : World) : Nat → Prop := fun k => k < w.heap.size ∧ k ≠ sb
def chkW (P : AE → List AV → List DE → Nat → Option AB → Prop) : KK := fun e vs df sz b => .need (P e vs df sz b) (.done .any Mem.empty)
theorem rel_W {F : List Int → Nat → Int} {X : List (List Int) → Nat → Int} {sb : Nat} {es : List Nat} {xs : List AB} {w : World} {a : Act} {v1 : Value} {l : List (Nat × AV)} {D : List DE} {rate suf : Int} {x : Nat → Int} {at_ : Int} {rd : Bool}
    (hs : SpAt sb rate suf x at_ rd w) (hgd : GDp gdA (Bw sb w) w) (ht : TmF a [(0, .pointer (some ⟨sb, 0, none⟩)), (1, v1)]) (h1 : v1.oneCell' = true)
    (hl : ∀ p ∈ l, p.2.R (envX gdA (sb :: es)) (2 + (xs.length + 1)) (a.tmps.getD p.1 undef)) (hD : Dfs (envX gdA (sb :: es)) (2 + (xs.length + 1)) D a.defers)
    (hx : ∀ (j : Nat) (ab : AB), xs[j]? = some ab → ab.R (envX gdA (sb :: es)) (2 + (xs.length + 1)) (Bw sb w) w (es.getD j 0)) (hw : ∀ ab ∈ xs, ab.wr = false) :
    Rel (cWr F X) (Bw sb w) w (envX gdA (sb :: es)) (tmW v1 l D) (memX gdA (.cells 66 (cellsS rate suf x (.si .i64 at_) rd) :: xs)) a w := by
  have e0 : envX gdA (sb :: es) 2 = sb := envX_at (gd := gdA) (es := sb :: es) 0
  refine ⟨ht.1, fun t => ?_, hD, MR.focusE rfl hgd (fun b hb => hb.1) (fun j ab hj => ?_) fun i j b c hi hj hij hb hc => ?_⟩
  · show ((slots 68 _).get t).R _ _ _
    refine slots_R fun q hq htq => ?_
    subst htq
    rcases List.mem_append.1 hq with hq | hq
    · simp only [List.mem_cons, List.not_mem_nil, or_false] at hq
      rcases hq with rfl | rfl
      · refine ⟨by show 2 < 2 + (xs.length + 1); omega, ?_⟩
        rw [ht.2 (0, .pointer (some ⟨sb, 0, none⟩)) (by simp)]
        show _ = Value.pointer (some ⟨envX gdA (sb :: es) 2, 0, none⟩)
        rw [e0]
      · refine ⟨h1, ?_⟩
        rw [ht.2 (1, v1) (by simp)]
        rfl
    · exact hl q hq
  · cases j with
    | zero =>
      cases hj
      refine ⟨spV rate suf x at_ rd, ?_, cellsS_R hs.ok, fun h => h.2 rfl⟩
      exact hs.blk
    | succ j => exact hx j ab hj
  · cases i with
    | zero =>
      cases j with
      | zero => exact absurd rfl hij
      | succ j => rw [hw c (List.mem_of_getElem? hj)] at hc; cases hc
    | succ i => rw [hw b (List.mem_of_getElem? hi)] at hb; cases hb
theorem dfs_raw {env : Nat → Nat} {m : Nat} {d : Deferred} : ∀ {ds : List Deferred}, Dfs env m [.raw d] ds → ds = [d]
  | [], h => h.elim
  | [y], h => by rw [show y = d from h.1]
  | _ :: _ :: _, h => h.2.elim
theorem back_W {F : List Int → Nat → Int} {X : List (List Int) → Nat → Int} {sb : Nat} {es : List Nat} {w w' : World} {env' : Nat → Nat} {tm' : TM} {mem' : Mem} {a' : Act} {m : Nat} (hr : Rel (cWr F X) (Bw sb w) w env' tm' mem' a' w') (hx : Ext (envX gdA (sb :: es)) m env' mem'.n) (hm : 2 < m)
    {rate suf : Int} {x : Nat → Int} {at_ : Int} {rd : Bool} {s : SV} (hs : s = .si .i64 at_ ∨ s = .li .i64 at_) (hb : mem'.get 2 = some (.cells 66 (cellsS rate suf x s rd))) : SpAt sb rate suf x at_ rd w' ∧ Keep (Bw sb w) w w' ∧ env' 2 = sb := by
  have e0 : env' 2 = sb := (hx.2 2 hm).trans (envX_at (gd := gdA) (es := sb :: es) 0)
  obtain ⟨vs, h1, h2, _⟩ := hr.mem.blk 2 _ hb
  obtain ⟨rfl, hok⟩ := cellsS_of hs h2
  rw [e0] at h1
  exact ⟨⟨h1, hok⟩, hr.mem.below, e0⟩
def stepX (x : Nat → Int) (at_ : Int) (M : List Int) : Nat → Int := Xn [tab 25 x, [at_], M]
def rndX (rate : Int) (x : Nat → Int) (at_ : Int) (M : List Int) : (Nat → Int) × Int := if at_ + (M.length : Int) = rate then (Fn (tab 25 (stepX x at_ M)), 0) else (stepX x at_ M, at_ + (M.length : Int))
theorem wp_round {sb : Nat} {w : World} {a : Act} {v1 v6 v29 : Value} {d : Deferred} {rate suf : Int} {x : Nat → Int} {at_ : Int} {rd : Bool} {M : List Int} {bb off c : Nat}
    (hs : SpAt sb rate suf x at_ rd w) (hgd : GDp gdA (Bw sb w) w) (ht : TmF a [(0, .pointer (some ⟨sb, 0, none⟩)), (1, v1), (6, v6), (29, v29), (30, .tuple #[.slice (some ⟨bb, off, none⟩) M.length c, .bool true])]) (hd : a.defers = [d])
    (h1 : v1.oneCell' = true) (h6 : v6.oneCell' = true) (h29 : v29.oneCell' = true) (hc : M.length ≤ c) (hc2 : c ≤ 9223372036854775807)
    (hM : ∃ (front rest : List Value) (t : TypeId) (fr : Nat × Nat), w.heap[bb]? = some (.cells (front ++ (M.map (Value.int .u8) ++ rest)).toArray t fr) ∧ front.length = off ∧ ∀ n ∈ M, okI .u8 n) (hbb : bb ≠ sb)
    (h0 : 0 ≤ at_) (hl1 : 1 ≤ M.length) (hl2 : at_ + (M.length : Int) ≤ 200) :
    wpJ JW.J roundWr (fun e a' w' => e = .normal ∧ TmF a' [(0, .pointer (some ⟨sb, 0, none⟩)), (1, v1), (6, v6), (29, v29)] ∧ a'.defers = [d] ∧ Keep (Bw sb w) w w' ∧ SpAt sb rate suf (rndX rate x at_ M).1 (rndX rate x at_ M).2 rd w') a w := by
  obtain ⟨front, rest, ty, fr, hMb, hfr, hMok⟩ := hM
  have e3 : envX gdA (sb :: [bb, off]) 3 = bb := envX_at (gd := gdA) (es := sb :: [bb, off]) 1
  have e4 : envX gdA (sb :: [bb, off]) 4 = off := envX_at (gd := gdA) (es := sb :: [bb, off]) 2
  have hbl : bb < w.heap.size := (Array.getElem?_eq_some_iff.1 hMb).1
  have hrel : Rel (cWr Fn Xn) (Bw sb w) w (envX gdA (sb :: [bb, off])) (tmW v1 [(6, .one (.raw v6)), (29, .one (.raw v29)), (30, .tup [.one (.slr 3 4 0 M.length), .one (.lb true)])] [.raw d])
      (memX gdA (.cells 66 (cellsS rate suf x (.si .i64 at_) rd) :: [.rseq .u8 M 4, .gone])) a w := by
    refine rel_W hs hgd ⟨ht.1, fun p hp => ht.2 p (by simp only [List.mem_cons, List.not_mem_nil, or_false] at hp ⊢; rcases hp with rfl | rfl <;> simp)⟩ h1 (fun p hp => ?_) (by rw [hd]; exact ⟨rfl, trivial⟩) (fun j ab hj => ?_) (fun ab hab => ?_)
    · simp only [List.mem_cons, List.not_mem_nil, or_false] at hp
      rcases hp with rfl | rfl | rfl
      · exact ⟨h6, ht.2 (6, v6) (by simp)⟩
      · exact ⟨h29, ht.2 (29, v29) (by simp)⟩
      · rw [ht.2 (30, .tuple #[.slice (some ⟨bb, off, none⟩) M.length c, .bool true]) (by simp)]
        refine ⟨[.slice (some ⟨bb, off, none⟩) M.length c, .bool true], rfl, ⟨⟨by show 3 < 5; omega, by show 4 < 5; omega⟩, some ⟨bb, off, none⟩, c, hc, hc2, rfl, .inr ?_⟩, ⟨trivial, rfl⟩, trivial⟩
        rw [e3, e4]; rfl
    · match j, hj with
      | 0, hj =>
        cases hj
        exact .inr ⟨front, rest, ty, fr, hMb, ⟨hfr.trans e4.symm, by show 4 < 5; omega, hMok⟩, hbl, hbb⟩
      | 1, hj => cases hj; trivial
      | j + 2, hj => simp at hj
    · simp only [List.mem_cons, List.not_mem_nil, or_false] at hab
      rcases hab with rfl | rfl <;> rfl
  have hpq : partQ M 0 M.length = M := partQ_all _
  have hadd : binI .add .i64 at_ (M.length : Int) = at_ + (M.length : Int) := by
    show IntKind.i64.wrap _ = _
    exact wrap_ok (by constructor <;> simp [IntKind.min, IntKind.max, IntKind.signed, IntKind.bits] <;> omega)
  refine exec_ok (K := fun _ _ => True) cokWr 1000 (.run roundWr) _ _ (kW [0, 1, 6, 29] (chkW fun e vs df sz b => e = .normal ∧ vs = [.one (.ptr 2 0), .one (.raw v1), .one (.raw v6), .one (.raw v29)] ∧ df = [.raw d] ∧ sz = 68 ∧ ∃ s, (s = .si .i64 (rndX rate x at_ M).2 ∨ s = .li .i64 (rndX rate x at_ M).2) ∧ b = some (.cells 66 (cellsS rate suf (rndX rate x at_ M).1 s rd)))) ?_ (Bw sb w) w _ a w _ hrel ?_
  · rw [run_roundWr, hpq, hadd]
    refine ⟨by omega, h0, hl1, hl2, fun hb => ?_, fun hb => ?_⟩
    · have hb : at_ + (M.length : Int) = rate := by simpa [cmpI] using hb
      exact ⟨⟨rfl, rfl, rfl, rfl, .li .i64 0, .inr (by simp [rndX, hb]), by simp [rndX, hb, stepX]⟩, trivial⟩
    · have hb : ¬ at_ + (M.length : Int) = rate := by simpa [cmpI] using hb
      exact ⟨⟨rfl, rfl, rfl, rfl, .si .i64 (at_ + (M.length : Int)), .inl (by simp [rndX, hb]), by simp [rndX, hb, stepX]⟩, trivial⟩
  · intro ae tm' mem' env' a' w' hk hr hx
    obtain ⟨⟨he, hvs, hdf, hsz, s, hss, hb⟩, _⟩ := hk
    obtain ⟨q1, q2, q3⟩ := back_W hr hx (by show 2 < 2 + 3; omega) hss hb
    have hv : tm'.get 0 = .one (.ptr 2 0) ∧ tm'.get 1 = .one (.raw v1) ∧ tm'.get 6 = .one (.raw v6) ∧ tm'.get 29 = .one (.raw v29) := by
      simp only [List.map_cons, List.map_nil, List.cons.injEq, and_true] at hvs
      exact hvs
    obtain ⟨g0, g1, g6, g29⟩ := hv
    have t0 := hr.tmp 0
    have t1 := hr.tmp 1
    have t6 := hr.tmp 6
    have t29 := hr.tmp 29
    rw [g0] at t0; rw [g1] at t1; rw [g6] at t6; rw [g29] at t29
    refine ⟨by rw [he]; rfl, ⟨hr.size.trans hsz, fun p hp => ?_⟩, ?_, q2, q1⟩
    · simp only [List.mem_cons, List.not_mem_nil, or_false] at hp
      rcases hp with rfl | rfl | rfl | rfl
      · rw [t0.2]; show Value.pointer (some ⟨env' 2, 0, none⟩) = _; rw [q3]
      · exact t1.2
      · exact t6.2
      · exact t29.2
    · have hdd := hr.defers
      rw [hdf] at hdd
      exact dfs_raw hdd
end
end Go.Proofs.YtmiongjabbpmkaaDoor

namespace Go.Proofs.YtmiongjabbpmkaaDoor
open Go Go.Ax Go.RowKit
set_option linter.unusedSectionVars false
theorem gd_keep {sb : Nat} {w w' : World} (h : GDp gdA (Bw sb w) w) (hk : Keep (Bw sb w) w w') : GDp gdA (Bw sb w') w' := fun p hp => by
  obtain ⟨⟨h1, h2⟩, vs, rest, t, fr, h3, h4⟩ := h p hp
  exact ⟨⟨Nat.lt_of_lt_of_le h1 hk.grown.size, h2⟩, vs, rest, t, fr, (hk.block p.1 ⟨h1, h2⟩).trans h3, h4⟩
def dStop (st : Nat) : Deferred := { target := .builtin .close #[67] 0 #[false], args := #[.chan (some st)] }
section
variable [JW]
theorem wp_Wr0 {sb : Nat} {w : World} {a : Act} {v1 : Value} {rate suf : Int} {x : Nat → Int} {at_ : Int} {rd : Bool}
    (hs : SpAt sb rate suf x at_ rd w) (hgd : GDp gdA (Bw sb w) w) (ht : TmF a [(0, .pointer (some ⟨sb, 0, none⟩)), (1, v1)]) (hd : a.defers = []) (h1 : v1.oneCell' = true) :
    wpJ JW.J (.region 0 opsWr0 false) (fun e a' w' => e = .normal ∧ TmF a' [(0, .pointer (some ⟨sb, 0, none⟩)), (1, v1)] ∧ a'.defers = [] ∧ Keep (Bw sb w) w w' ∧ SpAt sb rate suf x at_ rd w') a w := by
  have hrel : Rel (cWr Fn Xn) (Bw sb w) w (envX gdA (sb :: [])) (tmW v1 [] []) (memX gdA (.cells 66 (cellsS rate suf x (.si .i64 at_) rd) :: [])) a w :=
    rel_W hs hgd ht h1 (fun p hp => by cases hp) (by rw [hd]; exact Dfs.nil) (fun j ab hj => by simp at hj) (fun ab hab => by cases hab)
  refine exec_ok (K := fun _ _ => True) cokWr 1000 (.run (.region 0 opsWr0 false)) _ _ (kW [0, 1] (chkW fun e vs df sz b => e = .normal ∧ vs = [.one (.ptr 2 0), .one (.raw v1)] ∧ df = [] ∧ sz = 68 ∧ b = some (.cells 66 (cellsS rate suf x (.si .i64 at_) rd)))) ?_ (Bw sb w) w _ a w _ hrel ?_
  · rw [run_Wr0]
    exact ⟨⟨rfl, rfl, rfl, rfl, rfl⟩, trivial⟩
  · intro ae tm' mem' env' a' w' hk hr hx
    obtain ⟨⟨he, hvs, hdf, hsz, hb⟩, _⟩ := hk
    obtain ⟨q1, q2, q3⟩ := back_W hr hx (by show 2 < 2 + 1; omega) (.inl rfl) hb
    simp only [List.map_cons, List.map_nil, List.cons.injEq, and_true] at hvs
    obtain ⟨g0, g1⟩ := hvs
    have t0 := hr.tmp 0
    have t1 := hr.tmp 1
    rw [g0] at t0; rw [g1] at t1
    refine ⟨by rw [he]; rfl, ⟨hr.size.trans hsz, fun p hp => ?_⟩, ?_, q2, q1⟩
    · simp only [List.mem_cons, List.not_mem_nil, or_false] at hp
      rcases hp with rfl | rfl
      · rw [t0.2]; show Value.pointer (some ⟨env' 2, 0, none⟩) = _; rw [q3]
      · exact t1.2
    · have hdd := hr.defers
      rw [hdf] at hdd
      cases hq : a'.defers with
      | nil => rfl
      | cons _ _ => rw [hq] at hdd; exact hdd.elim
theorem wp_front {sb : Nat} {w : World} {a : Act} {v1 : Value} {rate suf : Int} {x : Nat → Int} {at_ : Int} {rd : Bool}
    (hs : SpAt sb rate suf x at_ rd w) (hgd : GDp gdA (Bw sb w) w) (ht : TmF a [(0, .pointer (some ⟨sb, 0, none⟩)), (1, v1)]) (hd : a.defers = []) (h1 : v1.oneCell' = true) :
    wpJ JW.J frontWr (fun e a' w' => (if rd then e = .ret ∧ TmF a' [(4, .int .i64 0), (5, .int .i64 5)] else e = .normal ∧ TmF a' [(0, .pointer (some ⟨sb, 0, none⟩)), (1, v1)]) ∧ a'.defers = [] ∧ Keep (Bw sb w) w w' ∧ SpAt sb rate suf x at_ rd w') a w := by
  have hrel : Rel (cWr Fn Xn) (Bw sb w) w (envX gdA (sb :: [])) (tmW v1 [] []) (memX gdA (.cells 66 (cellsS rate suf x (.si .i64 at_) rd) :: [])) a w :=
    rel_W hs hgd ht h1 (fun p hp => by cases hp) (by rw [hd]; exact Dfs.nil) (fun j ab hj => by simp at hj) (fun ab hab => by cases hab)
  refine exec_ok (K := fun _ _ => True) cokWr 1000 (.run frontWr) _ _ (kW [0, 1, 4, 5] (chkW fun e vs df sz b => (if rd then e = .ret ∧ vs = [.one (.ptr 2 0), .one (.raw v1), .one (.li .i64 0), .one (.li .i64 5)] else e = .normal ∧ vs = [.one (.ptr 2 0), .one (.raw v1), .any, .any]) ∧ df = [] ∧ sz = 68 ∧ b = some (.cells 66 (cellsS rate suf x (.si .i64 at_) rd)))) ?_ (Bw sb w) w _ a w _ hrel ?_
  · rw [run_frontWr]
    refine ⟨fun h => ?_, fun h => ?_⟩
    · subst h
      exact ⟨⟨⟨rfl, rfl⟩, rfl, rfl, rfl⟩, trivial⟩
    · subst h
      exact ⟨⟨⟨rfl, rfl⟩, rfl, rfl, rfl⟩, trivial⟩
  · intro ae tm' mem' env' a' w' hk hr hx
    obtain ⟨⟨he, hdf, hsz, hb⟩, _⟩ := hk
    obtain ⟨q1, q2, q3⟩ := back_W hr hx (by show 2 < 2 + 1; omega) (.inl rfl) hb
    have t0 := hr.tmp 0
    have t1 := hr.tmp 1
    have t4 := hr.tmp 4
    have t5 := hr.tmp 5
    refine ⟨?_, ?_, q2, q1⟩
    · cases rd with
      | true =>
        obtain ⟨he, hvs⟩ := he
        simp only [List.map_cons, List.map_nil, List.cons.injEq, and_true] at hvs
        obtain ⟨_, _, g4, g5⟩ := hvs
        rw [g4] at t4; rw [g5] at t5
        refine ⟨by rw [he]; rfl, hr.size.trans hsz, fun p hp => ?_⟩
        simp only [List.mem_cons, List.not_mem_nil, or_false] at hp
        rcases hp with rfl | rfl
        · exact t4.2
        · exact t5.2
      | false =>
        obtain ⟨he, hvs⟩ := he
        simp only [List.map_cons, List.map_nil, List.cons.injEq, and_true] at hvs
        obtain ⟨g0, g1, _, _⟩ := hvs
        rw [g0] at t0; rw [g1] at t1
        refine ⟨by rw [he]; rfl, hr.size.trans hsz, fun p hp => ?_⟩
        simp only [List.mem_cons, List.not_mem_nil, or_false] at hp
        rcases hp with rfl | rfl
        · rw [t0.2]; show Value.pointer (some ⟨env' 2, 0, none⟩) = _; rw [q3]
        · exact t1.2
    · have hdd := hr.defers
      rw [hdf] at hdd
      cases hq : a'.defers with
      | nil => rfl
      | cons _ _ => rw [hq] at hdd; exact hdd.elim
end
section
variable {J : Judg Tryd.prog} {Q : Exit → Act → World → Prop}
set_option maxRecDepth 100000 in
theorem wp_Wr3 (hrel : ∀ a b, J.rel a b → ∃ d, b = a.at d) {sb : Nat} {w : World} {a : Act} {v1 : Value} (ht : TmF a [(0, .pointer (some ⟨sb, 0, none⟩)), (1, v1)]) (hd : a.defers = [])
    (h : ∀ a' d, TmF a' [(0, .pointer (some ⟨sb, 0, none⟩)), (1, v1), (6, .chan (some w.heap.size))] → a'.defers = [] → Q .normal a' ((w.alloc (.chan 0 #[] false 0 0 false)).at d)) : wpJ J (.region 3 opsWr3 false) Q a w := by
  refine wpJ_region_list ?_
  simp only [opsWr3, bodyWr, Tryd.f9, Option.getD_some]
  refine wl_val (F := fun w1 => ∃ d, w1 = w.at d) (F' := fun w2 => ∃ d, w2 = (w.alloc (.chan 0 #[] false 0 0 false)).at d) (v := .chan (some w.heap.size)) rfl (NS.bind (ns_makeChan _ _) fun _ => ns_pure _) (fun w1 h1 => hrel _ _ h1) (fun w1 h1 => ?_) fun w2 h2 => ?_
  · obtain ⟨d, rfl⟩ := h1
    have e : (Instr.makeChan 67 (.int .i64 0)).run Tryd.prog (w.at d) = .ok (.chan (some w.heap.size)) ((w.at d).alloc (.chan 0 #[] false 0 0 false)) := by kernel_rfl
    refine ⟨(w.at d).alloc (.chan 0 #[] false 0 0 false), ?_, d, rfl⟩
    simp [go_sem, Act.eval, e]
  · have ht2 : TmF (a.put (some 12) (.chan (some w.heap.size))) [(0, .pointer (some ⟨sb, 0, none⟩)), (1, v1), (12, .chan (some w.heap.size))] := ht.put (by omega) (by simp)
    refine wl_val (F := fun w1 => ∃ d, w1 = (w.alloc (.chan 0 #[] false 0 0 false)).at d) (F' := fun w2 => ∃ d, w2 = (w.alloc (.chan 0 #[] false 0 0 false)).at d) (v := .chan (some w.heap.size)) rfl (ns_pure _) (fun w1 h1 => by obtain ⟨d, rfl⟩ := h2; obtain ⟨d', rfl⟩ := hrel _ _ h1; exact ⟨d', rfl⟩) (fun w1 h1 => ?_) fun w3 h3 => ?_
    · refine ⟨w1, ?_, h1⟩
      have := ht2.eval (t := 12) (v := .chan (some w.heap.size)) (by simp)
      show Result.ok (Next.value ((a.put (some 12) (.chan (some w.heap.size))).eval (.tmp 12))) w1 = _
      rw [this]
    · obtain ⟨d, rfl⟩ := h3
      exact h _ d (ht2.put (by omega) (by simp)) hd
set_option maxRecDepth 100000 in
theorem wp_Wr4 (hrel : ∀ a b, J.rel a b → ∃ d, b = a.at d) {sb st : Nat} {w : World} {a : Act} {v1 : Value} (ht : TmF a [(0, .pointer (some ⟨sb, 0, none⟩)), (1, v1), (6, .chan (some st))]) (hd : a.defers = [])
    (h : ∀ a' d, TmF a' [(0, .pointer (some ⟨sb, 0, none⟩)), (1, v1), (6, .chan (some st))] → a'.defers = [dStop st] → Q .normal a' (w.at d)) : wpJ J (.region 4 opsWr4 false) Q a w := by
  refine wpJ_region_list ?_
  simp only [opsWr4, bodyWr, Tryd.f9, Option.getD_some]
  have hF : ∀ w1, (∃ d, w1 = w.at d) → ∀ w2, J.rel w1 w2 → ∃ d, w2 = w.at d := fun w1 h1 w2 h2 => by obtain ⟨d, rfl⟩ := h1; obtain ⟨d', rfl⟩ := hrel _ _ h2; exact ⟨d', rfl⟩
  refine wl_val (F := fun w1 => ∃ d, w1 = w.at d) (F' := fun w2 => ∃ d, w2 = w.at d) (v := .chan (some st)) rfl (ns_pure _) (fun w1 h1 => hrel _ _ h1) (fun w1 h1 => ?_) fun w2 h2 => ?_
  · refine ⟨w1, ?_, h1⟩
    have := ht.eval (t := 6) (v := .chan (some st)) (by simp)
    show Result.ok (Next.value (a.eval (.tmp 6))) w1 = _
    rw [this]
  · have ht2 : TmF (a.put (some 13) (.chan (some st))) [(0, .pointer (some ⟨sb, 0, none⟩)), (1, v1), (6, .chan (some st)), (13, .chan (some st))] := ht.put (by omega) (by simp)
    have h13 := ht2.eval (t := 13) (v := .chan (some st)) (by simp)
    refine wl_defer (F := fun w1 => ∃ d, w1 = w.at d) (d := dStop st) rfl ?_ (hF w2 h2) (fun w1 h1 => ?_) fun w3 h3 => ?_
    · refine NS.bind ?_ fun _ => ns_pure _
      exact ns_pure _
    · unfold execOp
      simp only [resolve, dStop]
      simp [h13]
    · obtain ⟨d, rfl⟩ := h3
      exact h _ d ⟨ht2.1, fun p hp => ht2.2 p (by simp only [List.mem_cons, List.not_mem_nil, or_false] at hp ⊢; rcases hp with rfl | rfl | rfl <;> simp)⟩ (by show dStop st :: a.defers = _; rw [hd])
end
end Go.Proofs.YtmiongjabbpmkaaDoor

namespace Go.Proofs.YtmiongjabbpmkaaDoor
open Go Go.Ax Go.RowKit
set_option linter.unusedSectionVars false
section
variable {S : SetS} (hS : (besideJ Tryd.prog).closed S)
noncomputable abbrev JWr (fN rN : Nat) (a0 : Option Addr) (r c : Nat) (out : Array (Nat × ByteArray)) : Judg Tryd.prog := starJ Tryd.prog (famW fN rN out) S (partsV rN r a0 r c fN) hS
set_option maxRecDepth 100000 in
theorem wp_Wr5 {sb st : Nat} {w : World} {a : Act} {suf : Int} {x : Nat → Int} {fN rN atN : Nat} {a0 : Option Addr} {r c : Nat} {out : Array (Nat × ByteArray)}
    (hf1 : 1 ≤ fN) (hfa : fN + atN = rN) (hr200 : rN ≤ 200) (hrc : r ≤ c) (hc : c ≤ 9223372036854775807) (hs : SpAt sb (rN : Int) suf x (atN : Int) false w) (hgd : GDp gdA (Bw sb w) w)
    (ht : TmF a [(0, .pointer (some ⟨sb, 0, none⟩)), (1, .slice a0 r c), (6, .chan (some st))]) (hd : a.defers = [dStop st]) (hout : w.output = out) (hch : ChO w st) (hne : st ≠ sb) :
    wpJ (JWr hS fN rN a0 r c out) (.region 5 opsWr5 true) (fun e a' w' => e = .normal ∧ ∃ (N : Nat) (hst : st < N), w.heap.size ≤ N ∧ TmF a' [(0, .pointer (some ⟨sb, 0, none⟩)), (1, .slice a0 r c), (6, .chan (some st)), (29, .chan (some (N + 4)))] ∧ a'.defers = [dStop st] ∧
      w'.output = (famW fN rN out).told ⟨(N, st), hst⟩ 0 ∧ w'.os = w.os ∧ w'.tape = w.tape ∧ w'.heap.size = N + 6 ∧ (∀ k, k < w.heap.size → k ≠ sb → k ≠ st → w'.heap[k]? = w.heap[k]?) ∧ SpAt sb (rN : Int) suf x (atN : Int) false w') a w := by
  letI : JW := ⟨JWr hS fN rN a0 r c out, Nat.le_refl 2⟩
  obtain ⟨hh1, hh2, hh3, hh4, hh5⟩ := head_Wr5
  refine wpJ_region_any mixedM fun w1 hw1 => ?_
  obtain ⟨d, rfl⟩ := hw1
  generalize hw2 : ({ w.at d with drawn := (w.at d).drawn + 1 } : World) = w2
  have hww : w2.heap = w.heap ∧ w2.output = w.output ∧ w2.os = w.os ∧ w2.tape = w.tape := by subst hw2; exact ⟨rfl, rfl, rfl, rfl⟩
  clear hw2
  have hs2 : SpAt sb (rN : Int) suf x (atN : Int) false w2 := ⟨by rw [hww.1]; exact hs.blk, hs.ok⟩
  have hgd2 : GDp gdA (Bw sb w2) w2 := by
    intro p hp
    obtain ⟨h1, vs, rest, t, fr, h3, h4⟩ := hgd p hp
    exact ⟨by show p.1 < w2.heap.size ∧ p.1 ≠ sb; rw [hww.1]; exact h1, vs, rest, t, fr, by rw [hww.1]; exact h3, h4⟩
  have hrel : Rel (cWr Fn Xn) (Bw sb w2) w2 (envX gdA (sb :: [])) (tmW (.slice a0 r c) [(6, .one (.raw (.chan (some st))))] [.raw (dStop st)]) (memX gdA (.cells 66 (cellsS (rN : Int) suf x (.si .i64 (atN : Int)) false) :: [])) a w2 :=
    rel_W hs2 hgd2 ⟨ht.1, fun p hp => ht.2 p (by simp only [List.mem_cons, List.not_mem_nil, or_false] at hp ⊢; rcases hp with rfl | rfl <;> simp)⟩ rfl (fun p hp => by
      simp only [List.mem_cons, List.not_mem_nil, or_false] at hp
      subst hp
      exact ⟨rfl, ht.2 (6, .chan (some st)) (by simp)⟩) (by rw [hd]; exact ⟨rfl, trivial⟩) (fun j ab hj => by simp at hj) (fun ab hab => by cases hab)
  have hsub : binI .sub .i64 (rN : Int) (atN : Int) = (fN : Int) := by
    show IntKind.i64.wrap _ = _
    rw [wrap_ok (by constructor <;> simp [IntKind.min, IntKind.max, IntKind.signed, IntKind.bits] <;> omega)]
    omega
  rw [show Array.replicate opsWr5.size false = firstsA opsWr5 0 from firstsA_zero.symm, show opsWr5.size = opsWr5.size - 0 from rfl]
  refine open_part (C := cWr Fn Xn) (K := fun _ _ => True) (d := 0) cokWr hh1 (by omega) (by rw [hh4]; omega) (.inr hh2) hh3 hrel
    (k := fun tm mem => kW [0, 1, 6, 14, 23, 27, 28] (chkW fun _ vs df sz b => vs = [.one (.ptr 2 0), .one (.raw (.slice a0 r c)), .one (.raw (.chan (some st))), .one (.raw (.slice a0 r c)), .one (.si .i64 (fN : Int)), .one (.si .i64 (rN : Int)), .one (.raw (.chan (some st)))] ∧ df = [.raw (dStop st)] ∧ sz = 68 ∧ b = some (.cells 66 (cellsS (rN : Int) suf x (.si .i64 (atN : Int)) false))) .normal tm mem) ?_ ?_
  · refine Eq.mpr (congrArg (fun o => Out.sat (fun _ _ => True) o) (run_Wr5 Fn Xn _ (.slice a0 r c) (.chan (some st)) (dStop st) (rN : Int) suf (atN : Int) x false)) ?_
    rw [hsub]
    exact ⟨⟨rfl, rfl, rfl, rfl⟩, trivial⟩
  · intro tm' mem' env' a' w' hk hr hx
    obtain ⟨⟨hvs, hdf, hsz, hb⟩, _⟩ := hk
    obtain ⟨q1, q2, q3⟩ := back_W hr hx (by show 2 < 2 + 1; omega) (.inl rfl) hb
    simp only [List.map_cons, List.map_nil, List.cons.injEq, and_true] at hvs
    obtain ⟨g0, g1, g6, g14, g23, g27, g28⟩ := hvs
    have t0 := hr.tmp 0
    have t1 := hr.tmp 1
    have t6 := hr.tmp 6
    have t14 := hr.tmp 14
    have t23 := hr.tmp 23
    have t27 := hr.tmp 27
    have t28 := hr.tmp 28
    rw [g0] at t0; rw [g1] at t1; rw [g6] at t6; rw [g14] at t14; rw [g23] at t23; rw [g27] at t27; rw [g28] at t28
    have hdd : a'.defers = [dStop st] := by have := hr.defers; rw [hdf] at this; exact dfs_raw this
    have h0 : a'.tmps.getD 0 undef = .pointer (some ⟨sb, 0, none⟩) := by rw [t0.2]; show Value.pointer (some ⟨env' 2, 0, none⟩) = _; rw [q3]
    have hsz' : a'.tmps.size = 68 := hr.size.trans hsz
    rw [show opsWr5.size - 15 = opsWr5.size - 15 from rfl]
    refine any_one (by rw [hh4]; omega) hh5 ?_
    have ho : opsWr5[15]? = some { dst := some 29, op := .call { callee := .value (.func 28), args := #[.tmp 14, .tmp 23, .tmp 27, .tmp 28], argTypes := #[22, 3, 3, 82] }, type := 68, pos := "sponge.go:69", after := (opsWr5[15]?.getD default).after, guard := none } := by kernel_rfl
    unfold wpOpJ
    rw [ho]
    simp only [Region.wanted, if_true]
    have hbody : Tryd.f28.body.isSome = true := by kernel_rfl
    have hname : (Tryd.f28.name == "runtime.NumGoroutine") = false := by kernel_rfl
    refine ⟨fun _ => ?_, fun w3 hw3 => ?_⟩
    · exact (ns_callFunc (args := (#[] ++ #[Operand.tmp 14, .tmp 23, .tmp 27, .tmp 28].map a'.eval) ++ #[]) Tryd.func28 hname hbody : NS 2 Tryd.prog (callFunc 28 _))
    · have er := Conc.run_call_body (w := w3) (a := a') (o := { dst := some 29, op := .call { callee := .value (.func 28), args := #[.tmp 14, .tmp 23, .tmp 27, .tmp 28], argTypes := #[22, 3, 3, 82] }, type := 68, pos := "sponge.go:69", after := (opsWr5[15]?.getD default).after, guard := none }) (P := Tryd.prog) (f := 28) (args := #[.tmp 14, .tmp 23, .tmp 27, .tmp 28]) (ats := #[22, 3, 3, 82]) rfl Tryd.func28 hname (by kernel_rfl)
      refine Eq.mpr (congrArg (fun o => uponJ (JWr hS fN rN a0 r c out) _ a' _ _ o) er) ?_
      obtain ⟨d3, rfl⟩ := hw3
      have hargs : #[Operand.tmp 14, .tmp 23, .tmp 27, .tmp 28].map a'.eval = #[.slice a0 r c, .int .i64 (fN : Int), .int .i64 (rN : Int), .chan (some st)] := by
        have e14 : a'.eval (.tmp 14) = .slice a0 r c := t14.2
        have e23 : a'.eval (.tmp 23) = .int .i64 (fN : Int) := t23.2
        have e27 : a'.eval (.tmp 27) = .int .i64 (rN : Int) := t27.2
        have e28 : a'.eval (.tmp 28) = .chan (some st) := t28.2
        simp only [List.map_toArray, List.map_cons, List.map_nil, e14, e23, e27, e28]
      show CallsJ (JWr hS fN rN a0 r c out) _ _ _ _
      rw [hargs]
      have hst3 : st < w2.heap.size := by
        obtain ⟨s', r', tm', e⟩ := hch
        rw [hww.1]
        exact (Array.getElem?_eq_some_iff.1 e).1
      have hstw : (w'.at d3).heap[st]? = w.heap[st]? := by rw [← hww.1]; exact q2.block st ⟨hst3, hne⟩
      have hsz3 : st < (w'.at d3).heap.size := Nat.lt_of_lt_of_le hst3 q2.grown.size
      have hout3 : (w'.at d3).output = out := q2.grown.output.trans (hww.2.1.trans hout)
      refine (parts_calls hS (w := w'.at d3) (N := (w'.at d3).heap.size) hf1 (by omega) hrc hc hout3 rfl hsz3 (by obtain ⟨s', r', tm', e⟩ := hch; exact ⟨s', r', tm', hstw.trans e⟩)).mono ?_
      rintro e w4 ⟨rfl, k1, k2, k3, k4, k5⟩
      show wpAnyJ _ _ _ _ _ _ (a'.put (some 29) _) w4
      refine any_done (by rw [hh4]; omega) ⟨rfl, (w'.at d3).heap.size, hsz3, ?_, ?_, hdd, k3, ?_, ?_, k4, fun k hk hk1 hk2 => ?_, ?_, q1.ok⟩
      · rw [← hww.1]; exact q2.grown.size
      · exact TmF.put (l := [(0, .pointer (some ⟨sb, 0, none⟩)), (1, .slice a0 r c), (6, .chan (some st))]) ⟨hsz', fun p hp => by
          simp only [List.mem_cons, List.not_mem_nil, or_false] at hp
          rcases hp with rfl | rfl | rfl
          · exact h0
          · exact t1.2
          · exact t6.2⟩ (by omega) (by simp)
      · exact k1.trans (q2.grown.os.trans hww.2.2.1)
      · exact k2.trans (q2.grown.tape.trans hww.2.2.2)
      · have : k < w2.heap.size := by rw [hww.1]; exact hk
        rw [k5 k (Nat.lt_of_lt_of_le this q2.grown.size) hk2, ← hww.1]
        exact q2.block k ⟨this, hk1⟩
      · have hsl : sb < w'.heap.size := (Array.getElem?_eq_some_iff.1 q1.blk).1
        rw [k5 sb hsl (Ne.symm hne)]
        exact q1.blk
end
end Go.Proofs.YtmiongjabbpmkaaDoor

namespace Go.Proofs.YtmiongjabbpmkaaDoor
open Go Go.Ax Go.RowKit
set_option linter.unusedSectionVars false
def absW (rN : Nat) : Nat → (Nat → Int) → Nat → List Int → (Nat → Int) × Nat
  | 0, x, at_, _ => (x, at_)
  | f + 1, x, at_, M => if M.length = 0 then (x, at_) else
      absW rN f (rndX (rN : Int) x (at_ : Int) (M.take (min (rN - at_) M.length))).1 (if at_ + min (rN - at_) M.length = rN then 0 else at_ + min (rN - at_) M.length) (M.drop (min (rN - at_) M.length))
theorem rndX_at {rN at_ : Nat} {x : Nat → Int} {M : List Int} : (rndX (rN : Int) x (at_ : Int) M).2 = ((if at_ + M.length = rN then 0 else at_ + M.length : Nat) : Int) := by
  unfold rndX
  by_cases h : at_ + M.length = rN
  · rw [if_pos (by omega), if_pos h]; rfl
  · rw [if_neg (by omega), if_neg h]; simp
def Dat (w : World) (sb : Nat) (a : Option Addr) (M : List Int) : Prop :=
  M.length = 0 ∨ ∃ bb off, a = some ⟨bb, off, none⟩ ∧ bb ≠ sb ∧ ∃ (front rest : List Value) (t : TypeId) (fr : Nat × Nat), w.heap[bb]? = some (.cells (front ++ (M.map (Value.int .u8) ++ rest)).toArray t fr) ∧ front.length = off ∧ ∀ n ∈ M, okI .u8 n
theorem Dat.take {w : World} {sb : Nat} {a : Option Addr} {M : List Int} (h : Dat w sb a M) (m : Nat) : Dat w sb a (M.take m) := by
  rcases h with h | ⟨bb, off, e, hne, front, rest, t, fr, h1, h2, h3⟩
  · left; simp [h]
  · refine .inr ⟨bb, off, e, hne, front, (M.drop m).map (.int .u8) ++ rest, t, fr, ?_, h2, fun n hn => h3 n (List.mem_of_mem_take hn)⟩
    rw [h1, ← List.append_assoc ((M.take m).map _), ← List.map_append, List.take_append_drop]
theorem Dat.drop {w : World} {sb : Nat} {a : Option Addr} {M : List Int} {c : Nat} (h : Dat w sb a M) (hc : M.length ≤ c) (m : Nat) : Dat w sb (if c = m then a else a.map (·.add m)) (M.drop m) := by
  by_cases hm : M.length ≤ m
  · left; rw [List.length_drop]; omega
  · rcases h with h | ⟨bb, off, e, hne, front, rest, t, fr, h1, h2, h3⟩
    · omega
    · rw [if_neg (by omega)]
      refine .inr ⟨bb, off + m, by rw [e]; simp [Addr.add], hne, front ++ (M.take m).map (.int .u8), rest, t, fr, ?_, by simp; omega, fun n hn => h3 n (List.mem_of_mem_drop hn)⟩
      rw [h1, List.append_assoc front, ← List.append_assoc ((M.take m).map _), ← List.map_append, List.take_append_drop]
structure HeadW (sb st N : Nat) (hst : st < N) (fN rN : Nat) (out : Array (Nat × ByteArray)) (v1 : Value) (suf : Int) (w0 : World) (n : Nat) (x : Nat → Int) (at_ : Nat) (a : Act) (w : World) : Prop where
  tm : TmF a [(0, .pointer (some ⟨sb, 0, none⟩)), (1, v1), (6, .chan (some st)), (29, .chan (some (N + 4)))]
  df : a.defers = [dStop st]
  out : w.output = (famW fN rN out).told ⟨(N, st), hst⟩ n
  os : w.os = w0.os
  tape : w.tape = w0.tape
  size : N + 6 ≤ w.heap.size
  old : ∀ k, k < w0.heap.size → k ≠ sb → w.heap[k]? = w0.heap[k]?
  sp : SpAt sb (rN : Int) suf x (at_ : Int) false w
structure FinW (sb st rN : Nat) (out : Array (Nat × ByteArray)) (v1 : Value) (suf : Int) (w0 : World) (y : (Nat → Int) × Nat) (a : Act) (w : World) : Prop where
  tm : TmF a [(1, v1)]
  df : a.defers = [dStop st]
  out : w.output = out
  os : w.os = w0.os
  tape : w.tape = w0.tape
  size : w0.heap.size ≤ w.heap.size
  old : ∀ k, k < w0.heap.size → k ≠ sb → w.heap[k]? = w0.heap[k]?
  ch : ChO w st
  sp : SpAt sb (rN : Int) suf y.1 (y.2 : Int) false w
theorem absW_zero {rN f : Nat} {x : Nat → Int} {at_ : Nat} {M : List Int} (h : M.length = 0) : absW rN f x at_ M = (x, at_) := by
  cases f with
  | zero => rfl
  | succ f => rw [absW, if_pos h]
section
variable {P : Program} {J : Judg P} {S : SetS} {b : Frame} {a : Act} {k : List Item} {cs : List Frame} {w : World}
theorem Judg.seqm (hS : J.closed S) {x y : Code} (h : S (b.atR a (.code x :: .code y :: k)) cs w) : S (b.atR a (.code (.seq x y) :: k)) cs w :=
  J.move hS (cs' := cs) (fr' := b.atR a (.code x :: .code y :: k)) (fun w => by simp [stepG, stepG.exec, Frame.atR, gor]) h
theorem Judg.regm (hS : J.closed S) {id : Nat} {ops : Array Oper} (h : S (b.atR a (.inRegion ops (List.range ops.size) :: k)) cs w) : S (b.atR a (.code (.region id ops false) :: k)) cs w :=
  J.move hS (cs' := cs) (fr' := b.atR a (.inRegion ops (List.range ops.size) :: k)) (fun w => by simp [stepG, stepG.exec, Frame.atR, gor]) h
theorem Judg.finm (hS : J.closed S) {ops : Array Oper} (h : S (b.atR a k) cs w) : S (b.atR a (.inRegion ops [] :: k)) cs w :=
  J.move hS (cs' := cs) (fr' := b.atR a k) (fun w => by simp [stepG, stepG.exec, Frame.atR, gor]) h
theorem Judg.loopm (hS : J.closed S) {c : Code} (h : S (b.atR a (.code c :: .inLoop c :: k)) cs w) : S (b.atR a (.inLoop c :: k)) cs w :=
  J.move hS (cs' := cs) (fr' := b.atR a (.code c :: .inLoop c :: k)) (fun w => by simp [stepG, stepG.exec, Frame.atR, gor]) h
theorem Judg.loop0 (hS : J.closed S) {c : Code} (h : S (b.atR a (.code c :: .inLoop c :: k)) cs w) : S (b.atR a (.code (.loop c) :: k)) cs w :=
  J.move hS (cs' := cs) (fr' := b.atR a (.code c :: .inLoop c :: k)) (fun w => by simp [stepG, stepG.exec, Frame.atR, gor]) h
theorem Judg.blockm (hS : J.closed S) {id : Nat} {c : Code} (h : S (b.atR a (.code c :: .inBlock id :: k)) cs w) : S (b.atR a (.code (.block id c) :: k)) cs w :=
  J.move hS (cs' := cs) (fr' := b.atR a (.code c :: .inBlock id :: k)) (fun w => by simp [stepG, stepG.exec, Frame.atR, gor]) h
theorem Judg.exitm (hS : J.closed S) {id : Nat} {k0 : List Item} (he : exitTo id k = some k0) (h : S (b.atR a k0) cs w) : S (b.atR a (.code (.exit id) :: k)) cs w :=
  J.move hS (cs' := cs) (fr' := b.atR a k0) (fun w => by simp [stepG, stepG.exec, Frame.atR, gor, he]) h
end
section
variable {S : SetS} (hS : (besideJ Tryd.prog).closed S)
theorem ops6_eq : opsWr6 = #[{ dst := some 30, op := .recv 68 (.tmp 29) true, type := 0, pos := "sponge.go:69", after := (opsWr6[0]?.getD default).after, guard := none }, { dst := some 31, op := .extract (.tmp 30) 1, type := 4, pos := "sponge.go:69", after := (opsWr6[1]?.getD default).after, guard := none }] := by kernel_rfl
section
variable {fN rN R C N st sb : Nat} {A0 : Option Addr} {out : Array (Nat × ByteArray)} (hst : st < N) {w0 : World} {suf : Int}
set_option maxRecDepth 100000 in
theorem atRecv {b : Frame} {a : Act} {k : List Item} {cs : List Frame} (hb1 : b.roundOf = none) (hb2 : b.kind ≠ .early) (h29 : a.tmps.getD 29 undef = .chan (some (N + 4))) :
    AtRecv Tryd.prog ((famW fN rN out).D ⟨(N, st), hst⟩) (gor (b.atR a (.inRegion opsWr6 [0, 1] :: k)) cs) (b.atR a (.inRegion opsWr6 [0, 1] :: k)) cs := by
  refine ⟨rfl, fun w => ?_⟩
  have hk' : (b.kind == CallKind.early) = false := by simpa using hb2
  have he := Frame.eval_atR b a (.inRegion opsWr6 [0, 1] :: k)
  obtain ⟨af, ho⟩ : ∃ af, opsWr6[0]? = some { dst := some 30, op := .recv 68 (.tmp 29) true, type := 0, pos := "sponge.go:69", after := af, guard := none } := ⟨(opsWr6[0]?.getD default).after, by rw [ops6_eq]; rfl⟩
  have hr : (execOp a.eval { dst := some 30, op := .recv 68 (.tmp 29) true, type := 0, pos := "sponge.go:69", after := af, guard := none }).runT Tryd.prog w #[] = (.ok (.comm (recvC ((famW fN rN out).D ⟨(N, st), hst⟩)) true (.recv true)) w, #[]) := by
    rw [Sem.runT_eq]
    unfold execOp
    simp only [Act.eval, h29]
    simp [go_sem, recvC, Conc.rcase, famW, dealW]
  simp only [Frame.atR] at he
  simp only [stepG, stepG.exec, stepG.oper, Frame.oper?, Frame.atR, gor, ho, he, Option.map_some, Option.getD_some, Region.wanted, if_true]
  rw [hb1]
  simp only [stepG.apply, hr, hk', GStep.after, Conc.seen_none, Array.append_empty, Bool.false_eq_true, if_false, if_true]
end
section
variable {fN rN R C N st sb : Nat} {A0 : Option Addr} {out : Array (Nat × ByteArray)} (hst : st < N) {w0 : World} {suf : Int}
abbrev SetW (S : SetS) (fN rN : Nat) (A0 : Option Addr) (R C : Nat) (out : Array (Nat × ByteArray)) : SetS := Sg Tryd.prog (famW fN rN out) S (partsV rN R A0 R C fN)
theorem run_ext {a : Act} {v : Value} {t : Bool} {af : Array Edge} (h : a.tmps.getD 30 undef = .tuple #[v, .bool t]) :
    execOp a.eval { dst := some 31, op := .extract (.tmp 30) 1, type := 4, pos := "sponge.go:69", after := af, guard := none } = pure (.value (.bool t)) := by
  unfold execOp
  simp only [Act.eval, h]
  rfl
include hS in
theorem step_ext {a : Act} {b : Frame} {k : List Item} {cs : List Frame} {w : World} {v : Value} {t : Bool} {l : List (Nat × Value)} (hb1 : b.roundOf = none) (ht : TmF a ((30, .tuple #[v, .bool t]) :: l)) (hl : ∀ p ∈ l, p.1 ≠ 31)
    (h : ∀ a' d, TmF a' ((31, .bool t) :: (30, .tuple #[v, .bool t]) :: l) → a'.defers = a.defers → SetW S fN rN A0 R C out (b.atR a' k) cs (w.at d)) :
    SetW S fN rN A0 R C out (b.atR a (.inRegion opsWr6 [1] :: k)) cs w := by
  obtain ⟨af, ho⟩ : ∃ af, opsWr6[1]? = some { dst := some 31, op := .extract (.tmp 30) 1, type := 4, pos := "sponge.go:69", after := af, guard := none } := ⟨(opsWr6[1]?.getD default).after, by rw [ops6_eq]; rfl⟩
  have hr := run_ext (af := af) (ht.2 (30, .tuple #[v, .bool t]) (by simp))
  refine Judg.opv (J := JWr hS fN rN A0 R C out) rfl hb1 ho rfl (by rw [hr]; exact ns_pure _) fun w1 h1 => ⟨.bool t, w1, by rw [hr]; rfl, ?_⟩
  obtain ⟨d, rfl⟩ := h1
  refine Judg.finm (J := JWr hS fN rN A0 R C out) rfl (h _ d (ht.put (by omega) fun p hp => ?_) rfl)
  simp only [List.mem_cons] at hp
  rcases hp with rfl | rfl | hp
  · exact .inl rfl
  · exact .inr ⟨by simp, by simp⟩
  · exact .inr ⟨by simp [hp], hl p hp⟩
include hS in
theorem loop_Wr {b : Frame} (hb1 : b.roundOf = none) (hb2 : b.kind ≠ .early) {K0 : List Item} {cs : List Frame} (hsb : sb < w0.heap.size) (h0 : w0.heap.size ≤ st) (hgd : GDp gdA (Bw sb w0) w0) (hr200 : rN ≤ 200) (hr1 : 1 ≤ rN) {y : (Nat → Int) × Nat}
    (hfin : ∀ a' w', FinW sb st rN out (.slice A0 R C) suf w0 y a' w' → SetW S fN rN A0 R C out (b.atR a' K0) cs w') :
    ∀ (f r c room n : Nat) (a : Option Addr) (M : List Int) (x : Nat → Int) (at_ : Nat) (act : Act) (w : World), r ≤ f → r ≤ c → c ≤ 9223372036854775807 → (partsV rN R A0 R C fN).drop n = partsV rN f a r c room → M.length = r → (r = 0 ∨ room = rN - at_) → at_ < rN →
      Dat w0 sb a M → absW rN f x at_ M = y → HeadW sb st N hst fN rN out (.slice A0 R C) suf w0 n x at_ act w → SetW S fN rN A0 R C out (b.atR act (.code loopWr :: .inLoop loopWr :: .inBlock 0 :: K0)) cs w := by
  have hclosed : (JWr hS fN rN A0 R C out).closed (SetW S fN rN A0 R C out) := rfl
  have hrange : List.range opsWr6.size = [0, 1] := by rw [ops6_eq]; rfl
  -- the end
  have fin : ∀ (n : Nat) (x : Nat → Int) (at_ : Nat) (act : Act) (w : World), (partsV rN R A0 R C fN).drop n = [] → (x, at_) = y → HeadW sb st N hst fN rN out (.slice A0 R C) suf w0 n x at_ act w → SetW S fN rN A0 R C out (b.atR act (.code loopWr :: .inLoop loopWr :: .inBlock 0 :: K0)) cs w := by
    intro n x at_ act w hV hy hw
    refine Eq.mpr (congrArg (fun c => SetW S fN rN A0 R C out (b.atR act (.code c :: .inLoop loopWr :: .inBlock 0 :: K0)) cs w) loopWr_eq) ?_
    refine Judg.seqm hclosed (Judg.regm hclosed ?_)
    rw [hrange]
    refine Sg.recvEnd (F := famW fN rN out) (i := ⟨(N, st), hst⟩) hw.out (List.drop_eq_nil_iff.1 hV) (atRecv hst hb1 hb2 (hw.tm.2 (29, .chan (some (N + 4))) (by simp))) fun w' hF => ?_
    obtain ⟨⟨d, hmask⟩, hch, hout, _⟩ := hF
    rw [Frame.finish_atR, ops6_eq]
    refine (show SetW S fN rN A0 R C out _ cs w' from ?_).1 hout
    rw [← ops6_eq]
    refine step_ext (hS := hS) (v := .slice none 0 0) (t := false) (l := [(1, .slice A0 R C)]) hb1 (hw.tm.put (by omega) fun p hp => ?_) (by simp) fun a' d' ht' hd' => ?_
    · simp only [List.mem_cons, List.not_mem_nil, or_false] at hp
      rcases hp with rfl | rfl
      · exact .inl rfl
      · exact .inr ⟨by simp, by simp⟩
    · refine Judg.seqm hclosed ?_
      refine JWr hS fN rN A0 R C out |>.move hclosed (fr' := b.atR a' (.code (.exit 0) :: .code (.block 1 roundWr) :: .inLoop loopWr :: .inBlock 0 :: K0)) (cs' := cs) (fun w => ?_) ?_
      · have := congrFun (Frame.eval_atR b a' (.code (.cond (.tmp 31) .skip (.exit 0)) :: .code (.block 1 roundWr) :: .inLoop loopWr :: .inBlock 0 :: K0)) (.tmp 31)
        have h31 : a'.eval (.tmp 31) = .bool false := ht'.2 (31, .bool false) (by simp)
        simp only [Frame.atR] at this
        simp [stepG, stepG.exec, Frame.atR, gor, this, h31]
      · refine Judg.exitm hclosed (k0 := K0) rfl (hfin a' (w'.at d') ?_)
        have hnX : ∀ k, k < w0.heap.size → ¬ ((famW fN rN out).D ⟨(N, st), hst⟩).X k := fun k hk h => by
          rcases h with h | h
          · obtain ⟨h, _⟩ := h
            have h : N ≤ k := h
            omega
          · have h : k = st := h
            omega
        have hold : ∀ k, k < w0.heap.size → w'.heap[k]? = w.heap[k]? := fun k hk => (hmask.block k (hnX k hk)).symm
        have hsz : w.heap.size = w'.heap.size := hmask.size
        exact { tm := ⟨ht'.1, fun p hp => ht'.2 p (by simp only [List.mem_cons, List.not_mem_nil, or_false] at hp ⊢; subst hp; simp)⟩, df := hd'.trans hw.df, out := hout, os := (hmask.os.symm).trans hw.os, tape := (hmask.tape.symm).trans hw.tape
                size := by have := hw.size; show w0.heap.size ≤ w'.heap.size; omega
                old := fun k hk hne => (hold k hk).trans (hw.old k hk hne), ch := hch
                sp := by rw [← hy]; exact ⟨(hold sb hsb).trans hw.sp.blk, hw.sp.ok⟩ }
  intro f
  induction f with
  | zero =>
    intro r c room n a M x at_ act w hrf _ _ hV hM _ _ _ hy hw
    exact fin n x at_ act w (by rw [hV]; rfl) hy hw
  | succ f ih =>
    intro r c room n a M x at_ act w hrf hrc hc hV hM hroom hat hD hy hw
    by_cases hr : r = 0
    · refine fin n x at_ act w (by rw [hV, partsV, if_pos hr]) ?_ hw
      rw [← hy, absW_zero (by omega)]
    · have hroom : room = rN - at_ := hroom.resolve_left hr
      have hMr : min (rN - at_) M.length = min room r := by rw [hroom, hM]
      rw [absW, if_neg (by omega), hMr] at hy
      rw [partsV, if_neg hr] at hV
      generalize hm : min room r = m at hV hy
      have hm1 : 1 ≤ m := by omega
      have hm2 : m ≤ r := by omega
      have hm3 : m ≤ room := by omega
      have hv : (partsV rN R A0 R C fN)[n]? = some (.slice a m c) := by
        have := congrArg (fun l : List Value => l[0]?) hV
        simpa using this
      have hV' : (partsV rN R A0 R C fN).drop (n + 1) = partsV rN f (if c = m then a else a.map (·.add m)) (r - m) (c - m) rN := by
        have := congrArg (List.drop 1) hV
        rw [List.drop_drop] at this
        exact this
      have hDt := hD.take m
      have hlen : (M.take m).length = m := by rw [List.length_take]; omega
      rcases hDt with hD0 | ⟨bb, off, ea, hbb, front, rest, t, fr, d1, d2, d3⟩
      · omega
      refine Eq.mpr (congrArg (fun c => SetW S fN rN A0 R C out (b.atR act (.code c :: .inLoop loopWr :: .inBlock 0 :: K0)) cs w) loopWr_eq) ?_
      refine Judg.seqm hclosed (Judg.regm hclosed ?_)
      rw [hrange]
      refine Sg.recv (F := famW fN rN out) (i := ⟨(N, st), hst⟩) hw.out hv (atRecv hst hb1 hb2 (hw.tm.2 (29, .chan (some (N + 4))) (by simp))) ?_
      rw [Frame.finish_atR, ops6_eq]
      show SetW S fN rN A0 R C out _ cs _
      rw [← ops6_eq]
      refine step_ext (hS := hS) (v := .slice a m c) (t := true) (l := [(0, .pointer (some ⟨sb, 0, none⟩)), (1, .slice A0 R C), (6, .chan (some st)), (29, .chan (some (N + 4)))]) hb1 (hw.tm.put (by omega) fun p hp => ?_) (by simp) fun a' d ht' hd' => ?_
      · simp only [List.mem_cons, List.not_mem_nil, or_false] at hp
        rcases hp with rfl | rfl | rfl | rfl | rfl
        · exact .inl rfl
        all_goals exact .inr ⟨by simp, by simp⟩
      · letI : JW := ⟨JWr hS fN rN A0 R C out, Nat.le_refl 2⟩
        generalize hw2 : (({ w with output := (famW fN rN out).told ⟨(N, st), hst⟩ (n + 1) } : World).at d) = w2
        have hww : w2.heap = w.heap ∧ w2.output = (famW fN rN out).told ⟨(N, st), hst⟩ (n + 1) ∧ w2.os = w.os ∧ w2.tape = w.tape := by subst hw2; exact ⟨rfl, rfl, rfl, rfl⟩
        clear hw2
        obtain ⟨e1, e2, e3, e4⟩ := hww
        have hs0 : w0.heap.size ≤ w2.heap.size := by rw [e1]; have := hw.size; omega
        have hgd2 : GDp gdA (Bw sb w2) w2 := fun p hp => by
          obtain ⟨⟨q1, q2⟩, vs, rs, tt, ff, q3, q4⟩ := hgd p hp
          refine ⟨⟨by omega, q2⟩, vs, rs, tt, ff, ?_, q4⟩
          rw [e1, hw.old p.1 q1 q2]
          exact q3
        have hwp := wp_round (sb := sb) (w := w2) (a := a') (v1 := .slice A0 R C) (v6 := .chan (some st)) (v29 := .chan (some (N + 4))) (d := dStop st) (rate := (rN : Int)) (suf := suf) (x := x) (at_ := (at_ : Int)) (rd := false) (M := M.take m) (bb := bb) (off := off) (c := c)
          ⟨by rw [e1]; exact hw.sp.blk, hw.sp.ok⟩ hgd2 ⟨ht'.1, fun p hp => ht'.2 p (by
            simp only [List.mem_cons, List.not_mem_nil, or_false] at hp ⊢
            rcases hp with rfl | rfl | rfl | rfl | rfl
            · simp
            · simp
            · simp
            · simp
            · rw [ea, hlen]; simp)⟩ (hd'.trans hw.df) rfl rfl rfl (by omega) hc
          ⟨front, rest, t, fr, by rw [e1, hw.old bb (Array.getElem?_eq_some_iff.1 d1).1 hbb]; exact d1, d2, d3⟩ hbb (by omega) (by omega) (by omega)
        refine wpJ_seq (J := JWr hS fN rN A0 R C out) (Q := fun e a'' w'' => e = .normal ∧ HeadW sb st N hst fN rN out (.slice A0 R C) suf w0 (n + 1) (rndX (rN : Int) x (at_ : Int) (M.take m)).1 (if at_ + m = rN then 0 else at_ + m) a'' w'') (wpJ_cond_true (c := .tmp 31) (show Act.eval a' (.tmp 31) = .bool true from ht'.2 (31, .bool true) (by simp)) (wpJ_skip (wpJ_block (wpJ_mono hwp ?_)))) b (.inLoop loopWr :: .inBlock 0 :: K0) cs _ (.inl hb1) hclosed ?_
        · rintro e a3 w3 ⟨rfl, k1, k2, k3, k4⟩
          rw [rndX_at, hlen] at k4
          refine ⟨rfl, { tm := k1, df := k2, out := k3.grown.output.trans e2, os := k3.grown.os.trans (e3.trans hw.os), tape := k3.grown.tape.trans (e4.trans hw.tape), size := ?_, old := fun k hk hne => ?_, sp := k4 }⟩
          · have := k3.grown.size
            have := hw.size
            rw [e1] at *
            omega
          · rw [k3.block k ⟨by omega, hne⟩, e1]
            exact hw.old k hk hne
        · rintro e a3 w3 ⟨rfl, hH⟩
          refine Judg.loopm hclosed ?_
          refine ih (r - m) (c - m) rN (n + 1) _ (M.drop m) _ _ a3 w3 (by omega) (by omega) (by omega) hV' (by rw [List.length_drop]; omega) ?_ (by split <;> omega) (hD.drop (by omega) m) hy hH
          by_cases hrm : r - m = 0
          · exact .inl hrm
          · right
            rw [if_pos (by omega)]
            omega
end
end
end Go.Proofs.YtmiongjabbpmkaaDoor

namespace Go.Proofs.YtmiongjabbpmkaaDoor
open Go Go.Ax Go.RowKit
set_option linter.unusedSectionVars false
theorem resWr (tmps : Array Value) (w : World) : (results Tryd.f9 tmps).run Tryd.prog w = .ok (.tuple #[tmps.getD 4 undef, tmps.getD 5 undef]) w := by kernel_rfl
section
variable {P : Program}
theorem ns_close (t : TypeId) (st : Nat) : NS 1 P (Builtin.close_ #[t] 0 #[.chan (some st)]) := by
  rw [close_some]
  refine NS.bind (ns_getObj _) fun o => ?_
  split
  · split
    · exact NS.bind (ns_runtimePanic _) fun _ => ⟨fun h => absurd h (by decide), ns_pure _⟩
    · exact ⟨fun h => absurd h (by decide), ns_pure _⟩
  · exact ns_stuck _
theorem close_end {S : SetS} (hS : (besideJ P).closed S) {fr : Frame} {cs : List Frame} {w : World} {st : Nat} (hm : fr.mode = .returning) (hd : fr.defers = [dStop st]) (hch : ChO w st)
    (h : ∀ w', (∃ s r tm d, w' = { (w.at d) with heap := w.heap.setIfInBounds st (.chan 0 #[] true s r tm) }) → S { fr with defers := [] } cs w') : S fr cs w := by
  obtain ⟨s, r, tm, hc⟩ := hch
  refine (besideJ P).okStep hS (Builtin.close_ #[67] 0 #[.chan (some st)]) (fun _ => ({ fr with defers := [] }, cs)) (fun _ => ns_close _ _) (fun w v w' hv => ⟨seen P fr.fn ((Builtin.close_ #[67] 0 #[.chan (some st)]).runT P w #[]).2, ?_, seen_runT⟩) fun w1 h1 => ?_
  · have e0 := runT_of hv
    have e1 : (invoke (dStop st).target (dStop st).args).runT P w #[] = (.ok (.value v) w', ((Builtin.close_ #[67] 0 #[.chan (some st)]).runT P w #[]).2) := by
      show (builtin .close #[67] 0 #[false] #[.chan (some st)]).runT P w #[] = _
      unfold builtin
      rw [Sem.runT_eq, Sem.runT_eq]
      simp only [Sem.run_bind, Sem.events_bind, hv, Result.andThen_ok, Result.evThen_ok, Sem.run_pure, Sem.events_pure]
    show stepG P true (gor fr cs) w = _
    unfold stepG
    simp only [gor, hm]
    unfold unwind
    simp only [hd, dStop]
    unfold callDeferred
    simp only [dStop] at e1
    simp only [e1, GStep.after, Array.append_empty, Bool.false_and, Bool.false_eq_true, if_false, hm]
  · obtain ⟨d, rfl⟩ := h1
    exact ⟨_, _, run_close_open (P := P) (w := w.at d) #[67] 0 hc, h _ ⟨s, r, tm, d, rfl⟩⟩
end
theorem run_lenSl {a0 : Option Addr} {r c : Nat} {w : World} : (Builtin.len_ #[22] 3 #[.slice a0 r c]).run Tryd.prog w = .ok (.int .i64 (r : Int)) w := by kernel_rfl
section
variable {J : Judg Tryd.prog} {Q : Exit → Act → World → Prop}
set_option maxRecDepth 100000 in
theorem wp_Wr12 (hrel : ∀ a b, J.rel a b → ∃ d, b = a.at d) {w : World} {a : Act} {a0 : Option Addr} {r c : Nat} (ht : TmF a [(1, .slice a0 r c)])
    (h : ∀ a' d, TmF a' [(4, .int .i64 (r : Int)), (5, .int .i64 0)] → a'.defers = a.defers → Q .normal a' (w.at d)) : wpJ J (.region 12 opsWr12 false) Q a w := by
  refine wpJ_region_list ?_
  simp only [opsWr12, bodyWr, Tryd.f9, Option.getD_some]
  have hF : ∀ w1, (∃ d, w1 = w.at d) → ∀ w2, J.rel w1 w2 → ∃ d, w2 = w.at d := fun w1 h1 w2 h2 => by obtain ⟨d, rfl⟩ := h1; obtain ⟨d', rfl⟩ := hrel _ _ h2; exact ⟨d', rfl⟩
  refine wl_val (F := fun w1 => ∃ d, w1 = w.at d) (F' := fun w2 => ∃ d, w2 = w.at d) (v := .slice a0 r c) rfl (ns_pure _) (fun w1 h1 => hrel _ _ h1) (fun w1 h1 => ⟨w1, ?_, h1⟩) fun w2 h2 => ?_
  · have := ht.eval (t := 1) (v := .slice a0 r c) (by simp)
    show Result.ok (Next.value (a.eval (.tmp 1))) w1 = _
    rw [this]
  · have ht2 : TmF (a.put (some 66) (.slice a0 r c)) [(66, .slice a0 r c)] := ht.put (by omega) (by simp)
    generalize he2 : a.put (some 66) (.slice a0 r c) = a2 at ht2 ⊢
    have hd2 : a2.defers = a.defers := by subst he2; rfl
    have h66 := ht2.eval (t := 66) (v := .slice a0 r c) (by simp)
    have hl : ∀ {o : Oper}, o.op = .call { callee := .builtin .len, args := #[.tmp 66], argTypes := #[22] } → execOp a2.eval o = (do let v ← Builtin.len_ #[22] o.type #[.slice a0 r c]; pure (.value v)) := fun {o} e => by
      unfold execOp
      simp [e, resolve, invoke, h66]
      rfl
    refine wl_val (F := fun w1 => ∃ d, w1 = w.at d) (F' := fun w2 => ∃ d, w2 = w.at d) (v := .int .i64 (r : Int)) rfl ?_ (hF w2 h2) (fun w1 h1 => ⟨w1, ?_, h1⟩) fun w3 h3 => ?_
    · rw [hl rfl]; exact NS.bind (ns_len _ _ _) fun _ => ns_pure _
    · rw [hl rfl, Sem.run_bind, run_lenSl]; rfl
    · have ht3 : TmF (a2.put (some 67) (.int .i64 (r : Int))) [(67, .int .i64 (r : Int))] := ht2.put (by omega) (by simp)
      refine wl_val (F := fun w1 => ∃ d, w1 = w.at d) (F' := fun w2 => ∃ d, w2 = w.at d) (v := .int .i64 (r : Int)) rfl (ns_pure _) (hF w3 h3) (fun w1 h1 => ⟨w1, ?_, h1⟩) fun w4 h4 => ?_
      · have := ht3.eval (t := 67) (v := .int .i64 (r : Int)) (by simp)
        show Result.ok (Next.value ((a2.put (some 67) (.int .i64 (r : Int))).eval (.tmp 67))) w1 = _
        rw [this]
      · have ht4 : TmF ((a2.put (some 67) (.int .i64 (r : Int))).put (some 4) (.int .i64 (r : Int))) [(4, .int .i64 (r : Int))] := ht3.put (by omega) (by simp)
        refine wl_val (F := fun w1 => ∃ d, w1 = w.at d) (F' := fun w2 => ∃ d, w2 = w.at d) (v := .int .i64 0) rfl (ns_pure _) (hF w4 h4) (fun w1 h1 => ⟨w1, rfl, h1⟩) fun w5 h5 => ?_
        obtain ⟨d, rfl⟩ := h5
        exact h _ d (ht4.put (by omega) (by simp)) hd2
end
set_option maxRecDepth 100000 in
theorem write_calls {sb : Nat} {w : World} {suf : Int} {x : Nat → Int} {rN atN : Nat} {rd : Bool} {A0 : Option Addr} {R C : Nat} {M : List Int}
    (hs : SpAt sb (rN : Int) suf x (atN : Int) rd w) (hgd : GDp gdA (Bw sb w) w) (hat : rd = false → atN < rN) (hr200 : rN ≤ 200) (hM : M.length = R) (hRC : R ≤ C) (hC : C ≤ 9223372036854775807) (hD : Dat w sb A0 M) :
    CallsL (besideJ Tryd.prog) 9 #[.pointer (some ⟨sb, 0, none⟩), .slice A0 R C] w fun e w' => Keep (Bw sb w) w w' ∧
      if rd then e = .returned (.tuple #[.int .i64 0, .int .i64 5]) ∧ SpAt sb (rN : Int) suf x (atN : Int) rd w' else e = .returned (.tuple #[.int .i64 (R : Int), .int .i64 0]) ∧ SpAt sb (rN : Int) suf (absW rN R x atN M).1 ((absW rN R x atN M).2 : Int) false w' := by
  intro cs S hS hR
  have hsb : sb < w.heap.size := (Array.getElem?_eq_some_iff.1 hs.blk).1
  obtain ⟨T, hT⟩ : ∃ T : SetS, T = SetW S (rN - atN) rN A0 R C w.output := ⟨_, rfl⟩
  have hclosed : (JWr hS (rN - atN) rN A0 R C w.output).closed T := hT
  have hrelJ : ∀ a b, (JWr hS (rN - atN) rN A0 R C w.output).rel a b → ∃ d, b = a.at d := fun a b h => h
  letI : JW := ⟨JWr hS (rN - atN) rN A0 R C w.output, Nat.le_refl 2⟩
  let b : Frame := { (default : Frame) with fn := 9, kind := .normal, roundOf := none }
  let a0 : Act := ⟨#[.pointer (some ⟨sb, 0, none⟩), .slice A0 R C] ++ Array.replicate 66 undef, []⟩
  have hfb : Tryd.f9.body = some bodyWr := by kernel_rfl
  have hnt : Tryd.f9.ntmps = 68 := by kernel_rfl
  have henter : Frame.enter Tryd.prog 9 #[.pointer (some ⟨sb, 0, none⟩), .slice A0 R C] .normal = b.atR a0 [.code bodyWr] := by
    simp [Frame.enter, Frame.atR, Tryd.func9, hfb, hnt, b, a0]
  rw [henter, bodyWr_eq]
  have hT1 : ∀ fr, T fr cs w → S fr cs w := fun fr h => by rw [hT] at h; exact h.1 rfl
  refine hT1 _ ?_
  -- a frame that has come to its end
  have hend : ∀ {a : Act} {w' : World} {v4 v5 : Value}, TmF a [(4, v4), (5, v5)] → (∀ d, Keep (Bw sb w) w (w'.at d) ∧ if rd then (Ending.returned (.tuple #[v4, v5])) = .returned (.tuple #[.int .i64 0, .int .i64 5]) ∧ SpAt sb (rN : Int) suf x (atN : Int) rd (w'.at d) else (Ending.returned (.tuple #[v4, v5])) = .returned (.tuple #[.int .i64 (R : Int), .int .i64 0]) ∧ SpAt sb (rN : Int) suf (absW rN R x atN M).1 ((absW rN R x atN M).2 : Int) false (w'.at d)) →
      ∀ k0, S { b.atR { a with defers := [] } k0 with mode := .returning } cs w' := fun {a w' v4 v5} ht hp k0 => by
    refine hR _ _ ⟨rfl, rfl, rfl, Tryd.f9, Tryd.func9, .inl ⟨rfl, fun w1 h1 => ⟨.tuple #[v4, v5], ?_, ?_⟩⟩⟩
    · rw [resWr]
      show Result.ok (Value.tuple #[a.tmps.getD 4 undef, a.tmps.getD 5 undef]) w1 = _
      rw [ht.2 (4, v4) (by simp), ht.2 (5, v5) (by simp)]
    · obtain ⟨d, rfl⟩ := h1
      exact hp d
  have ht0 : TmF a0 [(0, .pointer (some ⟨sb, 0, none⟩)), (1, .slice A0 R C)] := ⟨by simp [a0], fun p hp => by
    simp only [List.mem_cons, List.not_mem_nil, or_false] at hp
    rcases hp with rfl | rfl <;> simp [a0]⟩
  refine Judg.seqm hclosed ?_
  refine wp_Wr0 hs hgd ht0 rfl rfl b _ cs T (.inl rfl) hclosed ?_
  rintro e a1 w1 ⟨rfl, ht1, hd1, hk1, hs1⟩
  show T _ cs w1
  refine Judg.seqm hclosed ?_
  refine wp_front hs1 (gd_keep hgd hk1) ht1 hd1 rfl b _ cs T (.inl rfl) hclosed ?_
  rintro e a2 w2 ⟨hrd, hd2, hk2, hs2⟩
  have hk2 : Keep (Bw sb w) w w2 := ⟨hk1.grown.trans hk2.grown, fun k hk => (hk2.block k ⟨Nat.lt_of_lt_of_le hk.1 hk1.grown.size, hk.2⟩).trans (hk1.block k hk)⟩
  cases rd with
  | true =>
    obtain ⟨rfl, ht2⟩ := hrd
    intro k0
    rw [hT]
    refine Sg.of hk2.grown.output ?_
    refine (besideJ Tryd.prog).move hS (fr' := { b.atR { a2 with defers := [] } (.code .ret :: k0) with mode := .returning }) (cs' := cs) (fun w => by simp [stepG, stepG.exec, Frame.atR, gor, b, hd2]) ?_
    exact hend ht2 (fun d => ⟨⟨⟨hk2.grown.os, hk2.grown.tape, hk2.grown.output, hk2.grown.size, hk2.grown.block⟩, hk2.block⟩, rfl, hs2.blk, hs2.ok⟩) _
  | false =>
    have hat := hat rfl
    obtain ⟨rfl, ht2⟩ := hrd
    show T _ cs w2
    refine Judg.seqm hclosed ?_
    refine wp_Wr3 (Q := fun e a' w' => e = .normal ∧ ∃ d, w' = ((w2.alloc (.chan 0 #[] false 0 0 false)).at d) ∧ TmF a' [(0, .pointer (some ⟨sb, 0, none⟩)), (1, .slice A0 R C), (6, .chan (some w2.heap.size))] ∧ a'.defers = []) hrelJ ht2 hd2 (fun a' d h1 h2 => ⟨rfl, d, rfl, h1, h2⟩) b _ cs T (.inl rfl) hclosed ?_
    rintro e a3 w3 ⟨rfl, d3, hw3, ht3, hd3⟩
    show T _ cs w3
    refine Judg.seqm hclosed ?_
    refine wp_Wr4 (Q := fun e a' w' => e = .normal ∧ ∃ d, w' = w3.at d ∧ TmF a' [(0, .pointer (some ⟨sb, 0, none⟩)), (1, .slice A0 R C), (6, .chan (some w2.heap.size))] ∧ a'.defers = [dStop w2.heap.size]) hrelJ ht3 hd3 (fun a' d h1 h2 => ⟨rfl, d, rfl, h1, h2⟩) b _ cs T (.inl rfl) hclosed ?_
    rintro e a4 w4 ⟨rfl, d4, hw4, ht4, hd4⟩
    show T _ cs w4
    have h2sz := hk2.grown.size
    have h4h : w4.heap = w2.heap.push (.chan 0 #[] false 0 0 false) := by rw [hw4, hw3]; rfl
    have h4o : w4.output = w.output ∧ w4.os = w.os ∧ w4.tape = w.tape := by rw [hw4, hw3]; exact ⟨hk2.grown.output, hk2.grown.os, hk2.grown.tape⟩
    have h4old : ∀ k, k < w2.heap.size → w4.heap[k]? = w2.heap[k]? := fun k hk => by rw [h4h, Array.getElem?_push, if_neg (by omega)]
    have h4ch : ChO w4 w2.heap.size := ⟨0, 0, false, by rw [h4h]; simp⟩
    have h4sz : w4.heap.size = w2.heap.size + 1 := by rw [h4h]; simp
    clear hw4 hw3
    have hs4 : SpAt sb (rN : Int) suf x (atN : Int) false w4 := ⟨(h4old sb (by omega)).trans hs2.blk, hs2.ok⟩
    have hk4 : ∀ k, Bw sb w k → w4.heap[k]? = w.heap[k]? := fun k hk => (h4old k (Nat.lt_of_lt_of_le hk.1 h2sz)).trans (hk2.block k hk)
    have hgd4 : GDp gdA (Bw sb w4) w4 := fun p hp => by
      obtain ⟨⟨q1, q2⟩, vs, rs, tt, ff, q3, q4⟩ := hgd p hp
      exact ⟨⟨by omega, q2⟩, vs, rs, tt, ff, (hk4 p.1 ⟨q1, q2⟩).trans q3, q4⟩
    refine Judg.seqm hclosed (Judg.seqm hclosed ?_)
    refine wp_Wr5 hS (by omega) (by omega) hr200 hRC hC hs4 hgd4 ht4 hd4 h4o.1 h4ch (by omega) b _ cs T (.inl rfl) hclosed ?_
    rintro e a5 w5 ⟨rfl, N, hst, hN, ht5, hd5, ho5, hos5, htp5, hsz5, hb5, hs5⟩
    show T _ cs w5
    refine Judg.blockm hclosed (Judg.loop0 hclosed ?_)
    rw [hT]
    refine loop_Wr hS hst (w0 := w) (b := b) rfl (by simp [b]) hsb (by omega) hgd hr200 (by omega) (y := absW rN R x atN M) ?_ R R C (rN - atN) 0 A0 M x atN a5 w5 (Nat.le_refl _) hRC hC rfl hM (.inr rfl) hat hD rfl
      { tm := ht5, df := hd5, out := ho5, os := hos5.trans h4o.2.1, tape := htp5.trans h4o.2.2, size := by omega, old := fun k hk hne => (hb5 k (by omega) hne (by omega)).trans (hk4 k ⟨hk, hne⟩), sp := hs5 }
    intro a6 w6 hF
    rw [← hT]
    refine Judg.seqm hclosed ?_
    refine wp_Wr12 (Q := fun e a' w' => e = .normal ∧ ∃ d, w' = w6.at d ∧ TmF a' [(4, .int .i64 (R : Int)), (5, .int .i64 0)] ∧ a'.defers = a6.defers) hrelJ hF.tm (fun a' d h1 h2 => ⟨rfl, d, rfl, h1, h2⟩) b _ cs T (.inl rfl) hclosed ?_
    rintro e a7 w7 ⟨rfl, d7, rfl, ht7, hd7⟩
    show T _ cs _
    rw [hT]
    refine Sg.of hF.out ?_
    refine (besideJ Tryd.prog).move hS (fr' := { b.atR a7 [.code .ret] with mode := .returning }) (cs' := cs) (fun w => by simp [stepG, stepG.exec, Frame.atR, gor, b]) ?_
    refine close_end hS rfl (hd7.trans hF.df) (w := w6.at d7) hF.ch fun w8 hw8 => ?_
    obtain ⟨s8, r8, tm8, d8, rfl⟩ := hw8
    have hsz6 := hF.size
    refine hend (a := a7) (w' := { (w6.at d7).at d8 with heap := (w6.at d7).heap.setIfInBounds w2.heap.size (.chan 0 #[] true s8 r8 tm8) }) ht7 (fun d => ⟨⟨⟨hF.os, hF.tape, hF.out, by show w.heap.size ≤ (w6.heap.setIfInBounds _ _).size; rw [Array.size_setIfInBounds]; exact hsz6, fun k hk => absurd hk (by omega)⟩, fun k hk => ?_⟩, rfl, ?_, hF.sp.ok⟩) _
    · show (w6.heap.setIfInBounds w2.heap.size _)[k]? = _
      rw [Array.getElem?_setIfInBounds_ne (by have := hk.1; omega)]
      exact hF.old k hk.1 hk.2
    · show (w6.heap.setIfInBounds w2.heap.size _)[sb]? = _
      rw [Array.getElem?_setIfInBounds_ne (by omega)]
      exact hF.sp.blk
end Go.Proofs.YtmiongjabbpmkaaDoor

namespace Go.Proofs.YtmiongjabbpmkaaDoor
open Go Go.Ax
set_option linter.unusedSectionVars false
abbrev QSs := List (Nat × (List AV → Mem → Option (List Cnd × AV × Mem)))
abbrev IVs := List (TypeId × String × (Value → Option (Nat × AV)))
abbrev DCs := List (Nat × (Option Value → List AV → Mem → Option (List Cnd × Mem)))
def cfgB (P : Program) (J : Judg P) (gd : List (Nat × List SV)) (lit : Bool) (lv : Nat) (sg : List Nat) (fns : List (Nat × Func)) (ps : PSs) (fs : FSs) (qs : QSs) (lq : LQs) (sp : SPs) (ex : EXs) (al : List Nat) (dc : DCs) (cp : Bool) (iv : IVs := []) : Cfg := { P := P, J := J, fns := fns, gl := glFrom 0 gd, gd := gd, ps := ps, fs := fs, qs := qs, lq := lq, sp := sp, ex := ex, lvl := lv, lit := lit, sg := sg, al := al, dc := dc, cp := cp, iv := iv }
section
variable {P : Program} {J : Judg P} {gd : List (Nat × List SV)} {lit : Bool} {lv : Nat} {sg : List Nat} {fns : List (Nat × Func)} {ps : PSs} {fs : FSs} {qs : QSs} {lq : LQs} {sp : SPs} {ex : EXs} {al : List Nat} {dc : DCs} {cp : Bool} {iv : IVs}
end
class JZ extends JN where
  h0 : J.lvl = 0
@[reducible] noncomputable def aloneZ : JZ := { toJN := aloneN, h0 := rfl }
inductive B2 where
  | bad (n : Nat)
  | need (p : Prop) (o : B2)
  | br (c : Bool) (t f : B2)
  | both (a b : B2)
  | leaf (v : AV) (N : Nat) (R : List Int)
  | lost
def B2.sat (K : AV → Nat → List Int → Prop) : B2 → Prop
  | .bad _ => False
  | .need p o => p ∧ o.sat K
  | .br c x y => (c = true → x.sat K) ∧ (c = false → y.sat K)
  | .both x y => x.sat K ∧ y.sat K
  | .leaf v N R => K v N R
  | .lost => False
section
variable [JZ]
end
end Go.Proofs.YtmiongjabbpmkaaDoor

namespace Go.Proofs.YtmiongjabbpmkaaDoor
open Go Go.Ax Go.RowKit
set_option linter.unusedSectionVars false
abbrev QBs := List (Nat × (List AV → Mem → Option ((AV → Mem → Out) → Out)))
def cfgT (P : Program) (J : Judg P) (gd : List (Nat × List SV)) (lit : Bool) (lv : Nat) (sg : List Nat) (fns : List (Nat × Func)) (ps : PSs) (fs : FSs) (qs : QSs) (lq : LQs) (sp : SPs) (qb : QBs) (al : List Nat := []) : Cfg := { cfgB P J gd lit lv sg fns ps fs qs lq sp [] al [] false with qb := qb }
section
variable {P : Program} {J : Judg P} {gd : List (Nat × List SV)} {lit : Bool} {lv : Nat} {sg : List Nat} {fns : List (Nat × Func)} {ps : PSs} {fs : FSs} {qs : QSs} {lq : LQs} {sp : SPs} {qb : QBs} {al : List Nat}
theorem cokT (hm : P.follows .mixedOrders = true) (hl : J.lvl ≤ lv) (h1 : ∀ p ∈ fns, FnOk P p.1 p.2) (h2 : ∀ p ∈ ps, PSOk (cP0 P J gd) p.1 p.2) (h3 : ∀ p ∈ fs, FOk (cP0 P J gd) p.1 p.2) (h4 : ∀ p ∈ qs, QOk (cP0 P J gd).bare p.1 p.2) (h5 : ∀ p ∈ lq, LoopQ (cP0 P J gd) p.2.1 p.2.2) (h6 : ∀ p ∈ qb, QBk (cP0 P J gd).bare p.1 p.2) :
    COk (cfgT P J gd lit lv sg fns ps fs qs lq sp qb al) :=
  ⟨hm, hl, (fun p hp => by cases hp), (fun p hp => by cases hp), h1, fun p hp => (h2 p hp).cast rfl rfl rfl, (fun p hp => by cases hp), (fun p hp => by cases hp), (fun p hp => by cases hp),
    (fun p hp => (h4 p hp).widen (C := (cP0 P J gd).bare) (C' := cfgT P J gd lit lv sg fns ps fs qs lq sp qb al) rfl rfl (fun _ h => h)), (fun p hp => LoopQ.cast (C := cP0 P J gd) (C' := cfgT P J gd lit lv sg fns ps fs qs lq sp qb al) rfl rfl rfl (h5 p hp)), fun p hp => FOk.cast (C := cP0 P J gd) (C' := cfgT P J gd lit lv sg fns ps fs qs lq sp qb al) rfl rfl rfl (h3 p hp), (fun p hp => by cases hp),
    (fun p hp => (h6 p hp).widen (C := (cP0 P J gd).bare) (C' := cfgT P J gd lit lv sg fns ps fs qs lq sp qb al) rfl rfl (fun _ h => h))⟩
end
theorem MR.swap {C : Cfg} {B : Nat → Prop} {w0 w w' : World} {env : Nat → Nat} {mem : Mem} {b : Nat} {ab ab' : AB} (hm : MR C B w0 env mem w) (hg : mem.get b = some ab) (hw : ab.wr = true) (hk : Keep (fun k => k < w.heap.size ∧ k ≠ env b) w w')
    (hab : ab'.R env mem.n B w' (env b)) : MR C B w0 env (mem.set b ab') w' := by
  have hnB : ¬ B (env b) := (AB.heap_lt (hm.blk b ab hg) hw).2
  have hkB : Keep B w w' := ⟨hk.grown, fun k hk' => hk.block k ⟨hm.base k hk', fun e => hnB (e ▸ hk')⟩⟩
  have hget : ∀ i a, (mem.set b ab').get i = some a → (i = b ∧ a = ab') ∨ (i ≠ b ∧ mem.get i = some a) := fun i a hi => by
    by_cases h : i = b
    · subst h; exact .inl ⟨rfl, Tr.get_set_eq _ _ _ _ hi⟩
    · simp only [Mem.get, Mem.set] at hi ⊢
      rw [Tr.get_set_ne _ _ _ _ (Ne.symm h)] at hi
      exact .inr ⟨h, hi⟩
  have hset : (mem.set b ab').n = mem.n := rfl
  refine ⟨hm.below.trans hkB, fun k hk' => Nat.lt_of_lt_of_le (hm.base k hk') hk.grown.size, fun i a hi => ?_, fun i a hi => ?_, fun i j a c hi hj hij ha hc => ?_, hm.gl, hm.gd.below hkB⟩
  · rcases hget i a hi with ⟨rfl, _⟩ | ⟨_, h⟩
    · exact hm.lt _ _ hg
    · exact hm.lt _ _ h
  · rcases hget i a hi with ⟨rfl, rfl⟩ | ⟨hne, h⟩
    · exact hab
    · exact AB.R_same (hm.blk i a h) (fun hwa => hk.block _ ⟨(AB.heap_lt (hm.blk i a h) hwa).1, hm.sep i b _ _ h hg hne hwa hw⟩) fun hB => hkB.block _ hB
  · rcases hget i a hi with ⟨rfl, rfl⟩ | ⟨h1, h1'⟩ <;> rcases hget j c hj with ⟨rfl, rfl⟩ | ⟨h2, h2'⟩
    · exact absurd rfl hij
    · exact hm.sep _ _ _ _ hg h2' hij hw hc
    · exact hm.sep _ _ _ _ h1' hg hij ha hw
    · exact hm.sep _ _ _ _ h1' h2' hij ha hc
section
variable [JW]
def spP (l : List SV) : Option (Int × Int × List Int × Int × Bool) :=
  match l with
  | r :: s :: rest => match (AV.one r).num, (AV.one s).num, intsOf .u64 (rest.take 25), rest.drop 25 with
    | some (.i64, rate), some (.i64, suf), some es, [a, d] => match (AV.one a).num, (AV.one d).bool? with
      | some (.i64, at_), some (_, rd) => match Nat.beq es.length 25 with | true => some (rate, suf, es, at_, rd) | false => none
      | _, _ => none
    | _, _, _, _ => none
  | _ => none
theorem spP_spec {env : Nat → Nat} {m : Nat} {l : List SV} {vs : List Value} {rate suf at_ : Int} {es : List Int} {rd : Bool} (h : spP l = some (rate, suf, es, at_, rd)) (hR : All2 (SV.R env m) l vs) :
    vs = spV rate suf (fun j => es.getD j 0) at_ rd ∧ SpOk rate suf (fun j => es.getD j 0) at_ ∧ es.length = 25 := by
  unfold spP at h
  split at h
  · rename_i r s rest
    split at h
    · rename_i rate' suf' es' a d hr hs he hd
      split at h
      · rename_i at' x rd' ha hb
        split at h
        · rename_i hl
          cases h
          have hl := Nat.eq_of_beq_eq_true hl
          match vs, hR with
          | v1 :: v2 :: vs, ⟨q1, q2, q3⟩ =>
          obtain ⟨rfl, k1⟩ := num_val hr q1
          obtain ⟨rfl, k2⟩ := num_val hs q2
          rw [← List.take_append_drop 25 rest] at q3
          obtain ⟨m1, m2, rfl, q4, q5⟩ := all2_split q3
          obtain ⟨rfl, k3⟩ := intsOf_R he q4
          rw [hd] at q5
          match m2, q5 with
          | [v3, v4], ⟨q6, q7, _⟩ =>
          obtain ⟨rfl, k4⟩ := num_val ha q6
          have hbb : v4 = .bool rd := by
            refine bool_val (x := .one d) ?_ q7
            unfold AV.bool? at hb
            split at hb
            · cases hb; exact .inl (by assumption)
            · cases hb; exact .inr (by assumption)
            · cases hb
          subst hbb
          have htab : tab 25 (fun j => es.getD j 0) = es := by
            have := take_tab (L := es) (m := 25) (by omega)
            rw [List.take_of_length_le (by omega)] at this
            exact this.symm
          refine ⟨?_, ⟨k1, k2, by rw [htab]; exact k3, k4⟩, hl⟩
          unfold spV
          rw [htab]
          rfl
        · cases h
      · cases h
    · cases h
  · cases h
def writeB (T : TypeId) (X : Int → List Int → Int → List Int → Nat → Int) (A : Int → List Int → Int → List Int → Int) : List AV → Mem → Option ((AV → Mem → Out) → Out) := fun args mem =>
  match args with
  | [.one (.ptr b 0), v] => match mem.get b with
    | some (.cells T' l) => match spP l, parseE mem (.s .u8) v with
      | some (rate, suf, es, at_, rd), some (ps, M) => match Nat.beq T' T && aprt v b b with
        | true => some fun k => needs false ps (.need (0 ≤ at_) (.need (0 ≤ rate) (.need (rate ≤ 200) (.br rd
            (k (.tup [.one (.li .i64 0), .one (.li .i64 5)]) (mem.set b (.cells T l)))
            (.need (at_ < rate) (k (.tup [.one (.si .i64 (M.length : Int)), .one (.li .i64 0)]) (mem.set b (.cells T (cellsS rate suf (X rate es at_ M) (.si .i64 (A rate es at_ M)) false)))))))))
        | false => none
      | _, _ => none
    | _ => none
  | _ => none
def wrX (rate : Int) (es : List Int) (at_ : Int) (M : List Int) : Nat → Int := (absW rate.toNat M.length (fun j => es.getD j 0) at_.toNat M).1
def wrA (rate : Int) (es : List Int) (at_ : Int) (M : List Int) : Int := ((absW rate.toNat M.length (fun j => es.getD j 0) at_.toNat M).2 : Int)
end
section
@[reducible] noncomputable def besideN : JN := { J := besideJ Tryd.prog, hJ := by show 1 ≤ 2; omega, hN := by show 1 ≤ 1; omega }
theorem SpAt.cells {env : Nat → Nat} {m : Nat} {B : Nat → Prop} {b : Nat} {rate suf : Int} {x : Nat → Int} {at_ : Int} {rd : Bool} {w : World} (h : SpAt b rate suf x at_ rd w) (hB : ¬ B b) :
    (AB.cells 66 (cellsS rate suf x (.si .i64 at_) rd)).R env m B w b := ⟨_, h.blk, cellsS_R h.ok, hB⟩
theorem qb_Write {gd : List (Nat × List SV)} (hgA : ∀ p ∈ gdA, p ∈ gd) : QBk (cP0 Tryd.prog (besideJ Tryd.prog) gd).bare 9 (writeB 66 wrX wrA) := by
  refine ⟨⟨Tryd.f9, ⟨Tryd.func9, by kernel_rfl⟩, by kernel_rfl⟩, fun K k args mem o hF hs B w0 w env vals hm ha => ?_⟩
  letI : JW := besideN.toJW
  unfold writeB at hF
  split at hF
  · rename_i b v
    split at hF
    · rename_i T' l hg
      split at hF
      · rename_i rate suf es at_ rd ps M hsp hpe
        split at hF
        · rename_i hbq
          cases hF
          simp only [Bool.and_eq_true] at hbq
          obtain ⟨hT, hap⟩ := hbq
          have hT := Nat.eq_of_beq_eq_true hT
          subst hT
          obtain ⟨hps, h0, hr0, hr200, hbr⟩ := needs_sat hs
          match vals, ha with
          | [v1, v2], ⟨⟨hblt, hv1⟩, hx, _⟩ =>
          obtain ⟨vs, hW, hcs, hWB⟩ := hm.blk b _ hg
          obtain ⟨rfl, hok, hel⟩ := spP_spec hsp hcs
          have hl := parseE_spec hm hpe hps hx
          obtain ⟨p, c, rfl, hc1, hc2, hMok, bb, o, hlies⟩ := hl
          have hv1 : v1 = .pointer (some ⟨env b, 0, none⟩) := hv1
          subst hv1
          -- where the bytes lie
          have hD : Dat w (env b) p M := by
            rcases hlies with h | ⟨rfl, front, rest, t, fr, h1, h2⟩
            · left; rw [h]; rfl
            · by_cases hM : M = []
              · left; rw [hM]; rfl
              · refine .inr ⟨bb, o, rfl, ?_, front, rest, t, fr, h2, h1, hMok⟩
                have hM0 : M.length ≠ 0 := fun e => hM (List.eq_nil_of_length_eq_zero e)
                simp only [parseE] at hpe
                split at hpe
                · rename_i ps' k' M' hsq
                  split at hpe
                  · cases hpe
                    obtain ⟨b2, ab2, q1, q2, q3⟩ := srcQ_blk hm hsq hM
                    have q4 := blk_val q1 hx hM0
                    unfold aprt at hap
                    rw [q1] at hap
                    simp only [Bool.and_eq_true, Bool.not_eq_true'] at hap
                    have n1 : b2 ≠ b := fun e => by have := hap.1; subst e; rw [Nat.beq_refl] at this; cases this
                    rw [← q4]
                    rcases q3 with q3 | q3
                    · exact hm.sep b2 b _ _ q2 hg n1 q3 rfl
                    · exact fun e => hWB (e ▸ q3)
                  · cases hpe
                · cases hpe
          have hgd : GDp gdA (Bw (env b) w) w := fun p hp => by
            obtain ⟨q1, vs, rs, t, fr, q2, q3⟩ := hm.gd p (hgA p hp)
            exact ⟨⟨hm.base _ q1, fun e => hWB (e ▸ q1)⟩, vs, rs, t, fr, q2, q3⟩
          obtain ⟨rN, rfl⟩ : ∃ n : Nat, rate = n := ⟨rate.toNat, by omega⟩
          obtain ⟨atN, rfl⟩ : ∃ n : Nat, at_ = n := ⟨at_.toNat, by omega⟩
          have hW' : SpAt (env b) (rN : Int) suf (fun j => es.getD j 0) (atN : Int) rd w := ⟨hW, hok⟩
          have hlen : okI .i64 (M.length : Int) := by constructor <;> simp [IntKind.min, IntKind.max, IntKind.signed, IntKind.bits] <;> omega
          refine (write_calls hW' hgd (fun e => ?_) (by omega) rfl hc1 hc2 hD).calls.mono ?_
          · subst e
            have := (hbr.2 rfl).1
            omega
          · rintro e w' ⟨hk, h⟩
            cases rd with
            | true =>
              obtain ⟨rfl, hs'⟩ := h
              exact ⟨_, _, _, env, rfl, hbr.1 rfl, MR.swap hm hg rfl hk ⟨_, hs'.blk, hcs, hWB⟩, Ext.refl _ _, [.int .i64 0, .int .i64 5], rfl, ⟨by show okI .i64 _; decide, rfl⟩, ⟨by show okI .i64 _; decide, rfl⟩, trivial⟩
            | false =>
              obtain ⟨rfl, hs'⟩ := h
              exact ⟨_, _, _, env, rfl, (hbr.2 rfl).2, MR.swap hm hg rfl hk (hs'.cells hWB), Ext.refl _ _, [.int .i64 (M.length : Int), .int .i64 0], rfl, ⟨hlen, rfl⟩, ⟨by show okI .i64 _; decide, rfl⟩, trivial⟩
        · cases hF
      · cases hF
    · cases hF
  · cases hF
end
end Go.Proofs.YtmiongjabbpmkaaDoor

namespace Go.Proofs.YtmiongjabbpmkaaDoor
open Go Go.Ax
set_option linter.unusedSectionVars false
noncomputable def bodyRd : Code := Tryd.f10.body.getD .skip
noncomputable def loopRd : Code := match bodyRd with | .seq _ (.seq _ (.seq _ (.seq _ (.seq (.block _ (.loop c)) _)))) => c | _ => .skip
section
variable [JW]
noncomputable abbrev cRd (F : List Int → Nat → Int) (X O : List (List Int) → Nat → Int) : Cfg := cfgP Tryd.prog JW.J gdA false 2 [] [(30, Tryd.f30)] [pFV F] [qLXorV X, qLOutV O] [] [] []
theorem cokRd : COk (cRd Fn Xn On) := cokP mixedM JW.hJ (mem1 ⟨Tryd.func30, by kernel_rfl⟩) (mem1 ps_FV) (memc (upD qs_LXor) (mem1 (upD qs_LOut))) mem0 mem0
def tmR (n : Int) (out : SV) : TM := slots 73 [(0, .one (.ptr 2 0)), (1, .one (.si .i64 n)), (5, .one (.li .i64 0)), (6, .one out)]
abbrev KR := AE → List AV → List DE → Nat → Option AB → Option (Nat × Nat × Nat × Nat × Option AB) → Out
def kR (kk : KR) : AE → TM → Mem → Out := fun e tm mem => match tm.get 6 with
  | .one (.sq b g o n) => kk e [tm.get 0, tm.get 1, tm.get 5] tm.df tm.sz (mem.get 2) (some (b, g, o, n, mem.get b))
  | v => match e with
    | .exit _ => kk e [tm.get 0, tm.get 1, tm.get 5, v] tm.df tm.sz (mem.get 2) none
    | _ => .bad 77
def rdL (x : Nat → Int) (at_ m : Int) : List (List Int) := [tab 25 x, [at_], [m]]
def rdK (O : List (List Int) → Nat → Int) (kk : KR) (L : List Int) (rate suf : Int) (rd : Bool) (n : Int) (j : Nat) (x : Nat → Int) (at_ m : Int) : Out :=
  kk .normal [.one (.ptr 2 0), .one (.si .i64 n), .one (.li .i64 0)] [] 73 (some (.cells 66 (cellsS rate suf x (.si .i64 (binI .add .i64 at_ ((tab m.toNat (O (rdL x at_ m))).length : Int))) rd)))
    (some (j, j + 1, 0, (L ++ partQ (tab m.toNat (O (rdL x at_ m))) 0 (tab m.toNat (O (rdL x at_ m))).length).length, some (.seq 5 .u8 (L ++ partQ (tab m.toNat (O (rdL x at_ m))) 0 (tab m.toNat (O (rdL x at_ m))).length) (j + 1))))
def rdN (O : List (List Int) → Nat → Int) (kk : KR) (rate suf : Int) (rd : Bool) (n : Int) (x : Nat → Int) (at_ m : Int) : Out :=
  .need (0 ≤ at_) (.need (1 ≤ m) (.need (at_ + m ≤ 200) (.br (decide ((tab m.toNat (O (rdL x at_ m))).length = 0)) (.bad 77)
    (.need (0 + (tab m.toNat (O (rdL x at_ m))).length ≤ (tab m.toNat (O (rdL x at_ m))).length) (.need (0 < (partQ (tab m.toNat (O (rdL x at_ m))) 0 (tab m.toNat (O (rdL x at_ m))).length).length)
      (.need (([] ++ partQ (tab m.toNat (O (rdL x at_ m))) 0 (tab m.toNat (O (rdL x at_ m))).length).length ≤ 140737488355328 ∧ ([] ++ partQ (tab m.toNat (O (rdL x at_ m))) 0 (tab m.toNat (O (rdL x at_ m))).length).length * 1 ≤ 140737488355328) (rdK O kk [] rate suf rd n 93 x at_ m)))))))
def rdS (O : List (List Int) → Nat → Int) (kk : KR) (L : List Int) (rate suf : Int) (rd : Bool) (n : Int) (x : Nat → Int) (at_ m : Int) : Out :=
  .need (0 ≤ at_) (.need (1 ≤ m) (.need (at_ + m ≤ 200) (.need (L.length = L.length) 
    (.need (0 + (tab m.toNat (O (rdL x at_ m))).length ≤ (tab m.toNat (O (rdL x at_ m))).length) (.need True
      (.need ((L ++ partQ (tab m.toNat (O (rdL x at_ m))) 0 (tab m.toNat (O (rdL x at_ m))).length).length ≤ 140737488355328 ∧ (L ++ partQ (tab m.toNat (O (rdL x at_ m))) 0 (tab m.toNat (O (rdL x at_ m))).length).length * 1 ≤ 140737488355328) (rdK O kk L rate suf rd n 95 x at_ m)))))))
set_option maxRecDepth 100000 in
theorem run_rdNil (F : List Int → Nat → Int) (X O : List (List Int) → Nat → Int) (kk : KR) (n rate suf at_ : Int) (x : Nat → Int) (rd : Bool) :
    exec (cRd F X O) 1000 (.run loopRd) (tmR n (.raw (.slice none 0 0))) (memX gdA [.cells 66 (cellsS rate suf x (.si .i64 at_) rd)]) (kR kk) =
      .br (cmpI .lss 0 n) (.br (cmpI .eql at_ rate)
        (rdN O kk rate suf rd n (F (tab 25 x)) 0 (mmI true (binI .sub .i64 n 0) (binI .sub .i64 rate 0)))
        (rdN O kk rate suf rd n x at_ (mmI true (binI .sub .i64 n 0) (binI .sub .i64 rate at_))))
        (kk (.exit 0) [.one (.ptr 2 0), .one (.si .i64 n), .one (.li .i64 0), .one (.raw (.slice none 0 0))] [] 73 (some (.cells 66 (cellsS rate suf x (.si .i64 at_) rd))) none) := by kernel_rfl
set_option maxRecDepth 100000 in
theorem run_rdSeq (F : List Int → Nat → Int) (X O : List (List Int) → Nat → Int) (kk : KR) (n rate suf at_ : Int) (x : Nat → Int) (rd : Bool) (L : List Int) :
    exec (cRd F X O) 1000 (.run loopRd) (tmR n (.sq 3 4 0 L.length)) (memX gdA [.cells 66 (cellsS rate suf x (.si .i64 at_) rd), .seq 5 .u8 L 4, .gone]) (kR kk) =
      .br (cmpI .lss (L.length : Int) n) (.br (cmpI .eql at_ rate)
        (rdS O kk L rate suf rd n (F (tab 25 x)) 0 (mmI true (binI .sub .i64 n (L.length : Int)) (binI .sub .i64 rate 0)))
        (rdS O kk L rate suf rd n x at_ (mmI true (binI .sub .i64 n (L.length : Int)) (binI .sub .i64 rate at_))))
        (kk (.exit 0) [.one (.ptr 2 0), .one (.si .i64 n), .one (.li .i64 0)] [] 73 (some (.cells 66 (cellsS rate suf x (.si .i64 at_) rd))) (some (3, 4, 0, L.length, some (.seq 5 .u8 L 4)))) := by kernel_rfl
end
end Go.Proofs.YtmiongjabbpmkaaDoor
