/- Judgements on one goroutine's run: regions, calls, what a function does at its end. -/
import Derived.Test.YtljchidgchjoeaaAx0b
namespace Go.Ax
open Go Go.RowKit

section
variable {P : Program} {J : Judg P}

/-! ## Contracts -/

def Back (S : SetS) (c : Frame) (cs : List Frame) : Ending → World → Prop
  | .returned v, w => S (c.finish v) cs w
  | .panicked ch, w => S (c.raise ch) cs w
  | .outgrown, _ => True

/-- A function's contract. -/
def CallsJ (J : Judg P) (f : FuncId) (args : Array Value) (w : World) (R : Ending → World → Prop) : Prop :=
  ∀ (c : Frame) (cs : List Frame) (S : SetS), J.closed S → (∀ e w', R e w' → Back S c cs e w') → S (Frame.enter P f args .normal) (c :: cs) w
theorem CallsJ.mono {f : FuncId} {args : Array Value} {w : World} {R R' : Ending → World → Prop} (h : CallsJ J f args w R) (hr : ∀ e w', R e w' → R' e w') : CallsJ J f args w R' :=
  fun c cs S hS hR => h c cs S hS fun e w' q => hR e w' (hr _ _ q)

/-- A round's contract. -/
def RoundJ (J : Judg P) (l : Nat) (f : FuncId) (tmps : Array Value) (as bd : Code) (w : World) (R : Ending → World → Prop) : Prop :=
  ∀ (c : Frame) (cs : List Frame) (S : SetS), J.closed S → (∀ e w', R e w' → Back S c cs e w') → S (Frame.round l f tmps as bd .normal) (c :: cs) w
theorem RoundJ.mono {l : Nat} {f : FuncId} {tmps : Array Value} {as bd : Code} {w : World} {R R' : Ending → World → Prop} (h : RoundJ J l f tmps as bd w R) (hr : ∀ e w', R e w' → R' e w') : RoundJ J l f tmps as bd w R' :=
  fun c cs S hS hR => h c cs S hS fun e w' q => hR e w' (hr _ _ q)

/-! ## Operations -/

def callEnd (o : Oper) (a : Act) (next : Act → World → Prop) (Q : Exit → Act → World → Prop) : Ending → World → Prop
  | .returned v, w => next (a.put o.dst v) w
  | .panicked chain, w => Q (.panic chain) a w
  | .outgrown, _ => False

def uponJ (J : Judg P) (o : Oper) (a : Act) (next : Act → World → Prop) (Q : Exit → Act → World → Prop) : Result Next → Prop
  | .ok (.value v) w' => next (a.put o.dst v) w'
  | .ok .skip w' => next (a.put o.dst undef) w'
  | .ok (.defer d) w' => next ({ a with defers := d :: a.defers }.put o.dst undef) w'
  | .ok (.enter f args) w' => CallsJ J f args w' (callEnd o a next Q)
  | .ok (.round l f tmps as bd) w' => RoundJ J l f tmps as bd w' (callEnd o a next Q)
  | .halt (.panic v) w' => Q (.panic [{ v, recovered := false }]) a w'
  | _ => False

theorem uponJ.res {o : Oper} {a : Act} {next : Act → World → Prop} {Q : Exit → Act → World → Prop} {r : Result Next} (h : uponJ J o a next Q r) : Res1 (rv r) := by
  cases r with
  | ok n w => cases n <;> first | trivial | exact h.elim
  | halt x w => cases x <;> first | trivial | exact h.elim

def opJ (J : Judg P) (o : Oper) (a : Act) (w : World) (next : Act → World → Prop) (Q : Exit → Act → World → Prop) : Prop :=
  (1 ≤ J.lvl → NS J.lvl P (execOp a.eval o)) ∧ ∀ w1, J.rel w w1 → uponJ J o a next Q ((execOp a.eval o).run P w1)

theorem callEnd_mono {o : Oper} {a : Act} {K K' : Act → World → Prop} {Q : Exit → Act → World → Prop} (h : ∀ a w, K a w → K' a w) : ∀ e w, callEnd o a K Q e w → callEnd o a K' Q e w := by
  intro e w he
  cases e with
  | returned v => exact h _ _ he
  | panicked c => exact he
  | outgrown => exact he

theorem uponJ_mono {o : Oper} {a : Act} {K K' : Act → World → Prop} {Q : Exit → Act → World → Prop} (h : ∀ a w, K a w → K' a w) {r : Result Next} (hh : uponJ J o a K Q r) : uponJ J o a K' Q r := by
  cases r with
  | ok n w' =>
    cases n <;> first
      | exact h _ _ hh
      | exact CallsJ.mono hh (callEnd_mono h)
      | exact RoundJ.mono hh (callEnd_mono h)
      | exact hh.elim
  | halt x w' => cases x <;> first | exact hh | exact hh.elim

theorem opJ_mono {o : Oper} {a : Act} {w : World} {K K' : Act → World → Prop} {Q : Exit → Act → World → Prop} (h : ∀ a w, K a w → K' a w) (hh : opJ J o a w K Q) : opJ J o a w K' Q :=
  ⟨hh.1, fun w1 h1 => uponJ_mono h (hh.2 w1 h1)⟩

variable {ops : Array Oper} {Q : Exit → Act → World → Prop} {md : Region.Mode}

def wpOpJ (J : Judg P) (ops : Array Oper) (Q : Exit → Act → World → Prop) (i : Nat) (K : Act → World → Prop) (a : Act) (w : World) : Prop :=
  match ops[i]? with
  | none => K a w
  | some o => if Region.wanted o (yielded ops a.tmps) then opJ J o a w K Q else K (a.put o.dst undef) w

theorem wpOpJ_mono {i : Nat} {a : Act} {w : World} {K K' : Act → World → Prop} (h : ∀ a w, K a w → K' a w) (hh : wpOpJ J ops Q i K a w) : wpOpJ J ops Q i K' a w := by
  unfold wpOpJ at *
  split
  · exact h _ _ (by simpa [*] using hh)
  · rename_i o ho
    simp only [ho] at hh
    split
    · rename_i hw; simp only [hw, if_true] at hh; exact opJ_mono h hh
    · rename_i hw; simp only [hw] at hh; exact h _ _ hh

def wpOpsJ (J : Judg P) (ops : Array Oper) (Q : Exit → Act → World → Prop) : List Nat → Act → World → Prop
  | [], a, w => Q .normal a w
  | i :: rest, a, w => wpOpJ J ops Q i (wpOpsJ J ops Q rest) a w

theorem opsJ_sound : ∀ (l : List Nat) (a : Act) (w : World), wpOpsJ J ops Q l a w → ∀ (b : Frame) (k : List Item) (cs : List Frame) (S : SetS), (b.roundOf = none ∨ ops.toList.all flatOp = true) → J.closed S →
    (∀ e a' w', Q e a' w' → Arr S b k cs e a' w') → S (b.atR a (.inRegion ops l :: k)) cs w
  | [], a, w, h, b, k, cs, S, _, hS, hQ => J.move hS (cs' := cs) (fr' := b.atR a k) (fun w => by simp [stepG, stepG.exec, Frame.atR, gor]) (hQ _ _ _ h)
  | i :: rest, a, w, h, b, k, cs, S, hd, hS, hQ => by
    have hfin : ∀ v, (b.atR a (.inRegion ops (i :: rest) :: k)).finish v = b.atR (a.put ((ops[i]?).bind (·.dst)) v) (.inRegion ops rest :: k) := fun v => Frame.finish_atR b a ops i rest k v
    have hskip : ((ops[i]?).map (Region.wanted · (yielded ops a.tmps))).getD false = false → S (b.atR (a.put ((ops[i]?).bind (·.dst)) undef) (.inRegion ops rest :: k)) cs w → S (b.atR a (.inRegion ops (i :: rest) :: k)) cs w := fun hw hn => by
      refine J.move hS (fun w => ?_) hn
      rw [← hfin]
      simp only [Frame.atR] at *
      simp [stepG, stepG.exec, gor, hw]
    simp only [wpOpsJ, wpOpJ] at h
    cases ho : ops[i]? with
    | none =>
      rw [ho] at h hskip
      exact hskip rfl (opsJ_sound rest a w h b k cs S hd hS hQ)
    | some o =>
      rw [ho] at h hskip hfin
      by_cases hw : Region.wanted o (yielded ops a.tmps) = true
      · simp only [hw, if_true] at h
        obtain ⟨hns, hup⟩ := h
        have hnd : b.roundOf = none ∨ ∀ c, o.op ≠ .defer c := hd.imp id fun h c e => by
          have := List.all_eq_true.1 h o (by simpa using Array.mem_of_getElem? ho)
          unfold flatOp at this
          rw [e] at this
          cases this
        refine J.opStep hS (s := execOp a.eval o) (fun w => ?_) (by simp [Frame.atR]) hns fun w1 h1 => ?_
        · have he := Frame.eval_atR b a (.inRegion ops (i :: rest) :: k)
          simp only [Frame.atR] at he
          simp only [stepG, stepG.exec, stepG.oper, Frame.oper?, Frame.atR, gor, ho, hw, he, Option.map_some, Option.getD_some, if_true]
          rcases hnd with hb | hb
          · rw [hb]
          · cases hr : b.roundOf with
            | none => rfl
            | some l => cases hop : o.op <;> first | rfl | exact absurd hop (hb _)
        · have hu := hup w1 h1
          refine ⟨hu.res, ?_⟩
          generalize (execOp a.eval o).run P w1 = r at hu
          have hend : ∀ e w', callEnd o a (wpOpsJ J ops Q rest) Q e w' → Back S (b.atR a (.inRegion ops (i :: rest) :: k)) cs e w' := fun e w' he => by
            cases e with
            | returned v => show S _ _ _; rw [hfin]; exact opsJ_sound rest _ _ he b k cs S hd hS hQ
            | panicked ch => exact hQ _ _ _ he (.inRegion ops (i :: rest) :: k)
            | outgrown => trivial
          cases r with
          | ok n w' =>
            cases n with
            | value v => simp only [after, rv, Result.wd]; rw [hfin]; exact opsJ_sound rest _ _ hu b k cs S hd hS hQ
            | skip => simp only [after, rv, Result.wd]; rw [hfin]; exact opsJ_sound rest _ _ hu b k cs S hd hS hQ
            | defer d =>
              have := Frame.finish_atR b { a with defers := d :: a.defers } ops i rest k undef
              rw [ho] at this
              simp only [after, rv, Result.wd]
              have e : ({ b.atR a (.inRegion ops (i :: rest) :: k) with defers := d :: (b.atR a (.inRegion ops (i :: rest) :: k)).defers } : Frame) = b.atR { a with defers := d :: a.defers } (.inRegion ops (i :: rest) :: k) := rfl
              rw [e, this]
              exact opsJ_sound rest _ _ hu b k cs S hd hS hQ
            | enter f args => exact hu _ _ S hS hend
            | round l f tmps as bd => exact hu _ _ S hS hend
            | _ => exact hu.elim
          | halt x w' =>
            cases x with
            | panic v => exact hQ _ _ _ hu (.inRegion ops (i :: rest) :: k)
            | _ => exact hu.elim
      · simp only [hw] at h
        exact hskip (by simpa using hw) (opsJ_sound rest _ w h b k cs S hd hS hQ)

theorem wpJ_region {id : Nat} {a : Act} {w : World} (h : wpOpsJ J ops Q (List.range ops.size) a w) : wpJ J (.region id ops false) Q a w := fun b k cs S hd hS hQ =>
  J.move hS (cs' := cs) (fr' := b.atR a (.inRegion ops (List.range ops.size) :: k)) (fun w => by simp [stepG, stepG.exec, Frame.atR, gor]) (opsJ_sound _ _ _ h b k cs S hd hS hQ)

theorem wpJ_region_draw {id : Nat} {a : Act} {w : World} (h : ∀ w1, J.rel w w1 → ∀ t, wpOpsJ J ops Q (Region.schedule (P.follows .mixedOrders) ops t) a { w1 with drawn := w1.drawn + 1 }) : wpJ J (.region id ops true) Q a w := fun b k cs S hd hS hQ =>
  J.sem S _ _ w Nat (choose (.order b.fn id)) (fun r => ∃ t, r = .ok t) (fun r => match r with
      | .ok t => (b.atR a (.inRegion ops (Region.schedule (P.follows .mixedOrders) ops t) :: k), cs)
      | _ => (b, cs)) hS (fun _ => fun _ => trivial) (fun m h => by obtain ⟨_, h⟩ := h; cases h) (fun m h => by obtain ⟨_, h⟩ := h; cases h)
    (fun w1 _ => ⟨#[], by simp [stepG, stepG.exec, Frame.atR, gor, choose, Sem.run, Question.forced, Question.cut, rv, Result.wd], by simp⟩)
    (fun w1 h1 => ⟨⟨w1.tape w1.drawn (.order b.fn id), by simp [choose, Sem.run, Question.forced, Question.cut, rv]⟩, by
      have := opsJ_sound _ _ _ (h w1 h1 (w1.tape w1.drawn (.order b.fn id))) b k cs S hd hS hQ
      simpa [choose, Sem.run, Question.forced, Question.cut, rv, Result.wd] using this⟩)

/-! ## Lists of operations -/

def wpListJ (J : Judg P) (ops : Array Oper) (Q : Exit → Act → World → Prop) : List Oper → Act → World → Prop
  | [], a, w => Q .normal a w
  | o :: rest, a, w => if Region.wanted o (yielded ops a.tmps) then opJ J o a w (wpListJ J ops Q rest) Q else wpListJ J ops Q rest (a.put o.dst undef) w

theorem opsJ_listJ (l : List Oper) : ∀ k, (∀ j, l[j]? = ops[k + j]?) → wpOpsJ J ops Q (List.range' k l.length) = wpListJ J ops Q l := by
  induction l with
  | nil => intro k _; funext a w; simp [wpOpsJ, wpListJ]
  | cons o l ih =>
    intro k h
    have h0 : ops[k]? = some o := by simpa using (h 0).symm
    have ih' := ih (k + 1) (fun j => by have := h (j + 1); simpa [Nat.add_assoc, Nat.add_comm 1 j] using this)
    funext a w
    simp only [List.length_cons, List.range'_succ, wpOpsJ, wpListJ, wpOpJ, h0, ih']

theorem wpJ_region_list {id : Nat} {a : Act} {w : World} (h : wpListJ J ops Q ops.toList a w) : wpJ J (.region id ops false) Q a w :=
  wpJ_region (by rw [List.range_eq_range', ← Array.length_toList, opsJ_listJ ops.toList 0 (by simp)]; exact h)

/-! ## Any order -/

def wpAnyJ (J : Judg P) (md : Region.Mode) (ops : Array Oper) (Q : Exit → Act → World → Prop) : Nat → Array Bool → Act → World → Prop
  | 0, listed, a, w => Region.ready md ops listed = [] ∧ Q .normal a w
  | fuel + 1, listed, a, w => (Region.ready md ops listed = [] → Q .normal a w) ∧ ∀ i ∈ Region.ready md ops listed, wpOpJ J ops Q i (wpAnyJ J md ops Q fuel (listed.setIfInBounds i true)) a w

theorem wpAnyJ_sound : ∀ (fuel t : Nat) (listed : Array Bool) (a : Act) (w : World), wpAnyJ J md ops Q fuel listed a w → wpOpsJ J ops Q (Region.linearise.go md ops fuel t listed []) a w := by
  intro fuel
  induction fuel with
  | zero => intro t listed a w h; simpa [Region.linearise.go, wpOpsJ] using h.2
  | succ fuel ih =>
    intro t listed a w h
    obtain ⟨h₀, h₁⟩ := h
    simp only [Region.linearise.go]
    change wpOpsJ J ops Q (match (Region.ready md ops listed)[t % (Region.ready md ops listed).length]? with
      | some i => Region.linearise.go md ops fuel (t / (Region.ready md ops listed).length) (listed.setIfInBounds i true) [i]
      | none => [].reverse) a w
    cases hi : (Region.ready md ops listed)[t % (Region.ready md ops listed).length]? with
    | none =>
      have hnil : Region.ready md ops listed = [] := by
        cases hr : Region.ready md ops listed with
        | nil => rfl
        | cons x xs =>
          rw [hr] at hi
          have hlt : t % (x :: xs).length < (x :: xs).length := Nat.mod_lt _ (by simp)
          simp at hi
          simp at hlt
          omega
      simpa [wpOpsJ] using h₀ hnil
    | some i =>
      simp only []
      rw [linearise_go_acc, List.reverse_singleton, List.singleton_append, wpOpsJ]
      exact wpOpJ_mono (fun a w => ih _ _ a w) (h₁ i (List.mem_of_getElem? hi))

theorem wpJ_region_any {id : Nat} {a : Act} {w : World} (hm : P.follows .mixedOrders = true) (h : ∀ w1, J.rel w w1 → wpAnyJ J .any ops Q ops.size (Array.replicate ops.size false) a { w1 with drawn := w1.drawn + 1 }) : wpJ J (.region id ops true) Q a w :=
  wpJ_region_draw fun w1 h1 t => by
    simp only [Region.schedule, hm, Bool.true_or, if_true]
    exact wpAnyJ_sound ops.size t _ a _ (h w1 h1)

theorem wpAnyJ_of_seq : ∀ (l : List Oper) (k : Nat) (listed : Array Bool) (a : Act) (w : World), (∀ j, l[j]? = ops[k + j]?) → Region.seqB md ops l.length k listed = true → wpListJ J ops Q l a w → wpAnyJ J md ops Q l.length listed a w
  | [], _, _, _, _, _, hB, h => ⟨by simpa [Region.seqB] using hB, h⟩
  | o :: l, k, listed, a, w, hl, hB, h => by
    have h0 : ops[k]? = some o := by simpa using (hl 0).symm
    simp only [List.length_cons, Region.seqB, Bool.and_eq_true, decide_eq_true_eq] at hB
    refine ⟨fun h1 => (by rw [hB.1] at h1; cases h1), fun i hi => ?_⟩
    rw [hB.1] at hi
    have hik : i = k := by simpa using hi
    subst hik
    have hw : wpOpJ J ops Q i (wpListJ J ops Q l) a w := by unfold wpOpJ; simp only [h0]; exact h
    exact wpOpJ_mono (fun a' w' h' => wpAnyJ_of_seq l (i + 1) _ a' w' (fun j => by have := hl (j + 1); simpa [Nat.add_assoc, Nat.add_comm 1 j] using this) hB.2 h') hw

/-- It yields v, in whatever world; and it lists nothing that matters. -/
def YieldsJ (J : Judg P) (ops : Array Oper) (o : Oper) (v : Value) (a : Act) : Prop :=
  (Region.wanted o (yielded ops a.tmps) = true ∧ (1 ≤ J.lvl → NS J.lvl P (execOp a.eval o)) ∧ ∀ w, (execOp a.eval o).run P w = .ok (.value v) w) ∨
  (Region.wanted o (yielded ops a.tmps) = false ∧ v = undef)

theorem YieldsJ.wpOpJ {i : Nat} {o : Oper} {v : Value} {a : Act} (hi : ops[i]? = some o) (hy : YieldsJ J ops o v a) {K : Act → World → Prop} {w : World} (h : ∀ w1, J.rel w w1 → K (a.put o.dst v) w1) : wpOpJ J ops Q i K a w := by
  unfold Go.Ax.wpOpJ
  simp only [hi]
  rcases hy with ⟨hw, hn, hv⟩ | ⟨hw, rfl⟩
  · simp only [hw, if_true]
    exact ⟨hn, fun w1 h1 => by rw [hv w1]; exact h w1 h1⟩
  · simp only [hw, Bool.false_eq_true, if_false]; exact h w (J.refl w)

theorem YieldsJ.of_same {o : Oper} {v : Value} {a a' : Act} (hy : YieldsJ J ops o v a) (he : execOp a'.eval o = execOp a.eval o)
    (hw : Region.wanted o (yielded ops a'.tmps) = Region.wanted o (yielded ops a.tmps)) : YieldsJ J ops o v a' := by
  unfold YieldsJ at *
  rw [he, hw]
  exact hy

theorem wpOpJ_put {j : Nat} {oi oj : Oper} {v : Value} (hj : ops[j]? = some oj) (hap : oi.apart ops oj = true)
    (hsi : ∀ cs b, oi.op ≠ .select cs b) (hsj : ∀ cs b, oj.op ≠ .select cs b)
    (hQ : ∀ c a w, Q (.panic c) (a.put oi.dst v) w → Q (.panic c) a w) {K : Act → World → Prop} {a : Act} {w : World}
    (hy : YieldsJ J ops oi v a) (h : wpOpJ J ops Q j K (a.put oi.dst v) w) :
    wpOpJ J ops Q j (fun a' w' => YieldsJ J ops oi v a' ∧ K (a'.put oi.dst v) w') a w := by
  obtain ⟨h1, h2, h3⟩ := Oper.apart_spec hap
  have keep : ∀ (a : Act), YieldsJ J ops oi v a → ∀ u, YieldsJ J ops oi v (a.put oj.dst u) := fun a hy u =>
    hy.of_same (execOp_put oi hsi a oj.dst u h3) (wanted_put oi a oj.dst u h3)
  have keepD : ∀ d, YieldsJ J ops oi v { a with defers := d :: a.defers } := fun d => hy.of_same rfl rfl
  have hend : ∀ e w', callEnd oj (a.put oi.dst v) K Q e w' → callEnd oj a (fun a' w' => YieldsJ J ops oi v a' ∧ K (a'.put oi.dst v) w') Q e w' := fun e w' he => by
    cases e with
    | returned u => exact ⟨keep a hy u, by rw [← Act.put_comm a v u h2]; exact he⟩
    | panicked c => exact hQ _ _ _ he
    | outgrown => exact he
  unfold wpOpJ at *
  simp only [hj] at *
  rw [wanted_put oj a oi.dst v h1] at h
  split
  · rename_i hw
    simp only [hw, if_true] at h
    unfold opJ at *
    rw [execOp_put oj hsj a oi.dst v h1] at h
    refine ⟨h.1, fun w1 hw1 => ?_⟩
    have h := h.2 w1 hw1
    generalize (execOp a.eval oj).run P w1 = r at *
    cases r with
    | ok n w' =>
      cases n <;> simp only [uponJ] at h ⊢
      case value u => exact ⟨keep a hy u, by rw [← Act.put_comm a v u h2]; exact h⟩
      case skip => exact ⟨keep a hy _, by rw [← Act.put_comm a v undef h2]; exact h⟩
      case defer d =>
        refine ⟨keep _ (keepD d) _, ?_⟩
        rw [← Act.put_comm _ v undef h2, ← Act.put_defers]
        exact h
      case enter f args => exact CallsJ.mono h hend
      case round l f tmps as bd => exact RoundJ.mono h hend
    | halt x w' =>
      cases x <;> simp only [uponJ] at h ⊢
      case panic u => exact hQ _ _ _ h
  · rename_i hw
    simp only [hw] at h
    exact ⟨keep a hy _, by rw [← Act.put_comm a v undef h2]; exact h⟩

theorem wpAnyJ_rel (hQ : ∀ a w w1, J.rel w w1 → Q .normal a w → Q .normal a w1) : ∀ {fuel : Nat} {listed : Array Bool} {a : Act} {w w1 : World}, J.rel w w1 → wpAnyJ J md ops Q fuel listed a w → wpAnyJ J md ops Q fuel listed a w1
  | 0, _, _, _, _, h1, h => ⟨h.1, hQ _ _ _ h1 h.2⟩
  | fuel + 1, listed, a, w, w1, h1, h => ⟨fun h0 => hQ _ _ _ h1 (h.1 h0), fun i hi => by
      have := h.2 i hi
      unfold wpOpJ at this ⊢
      cases ho : ops[i]? with
      | none => rw [mem_ready] at hi; obtain ⟨_, o, ho', _⟩ := hi; rw [ho] at ho'; cases ho'
      | some o =>
        rw [ho] at this
        simp only at this ⊢
        split at this
        · rename_i hw
          rw [if_pos hw]
          exact ⟨this.1, fun w2 h2 => this.2 w2 (J.trans _ _ _ h1 h2)⟩
        · rename_i hw
          rw [if_neg hw]
          exact wpAnyJ_rel hQ h1 this⟩

/-- An operation that yields what it yields whenever it is taken may be taken first. -/
theorem wpAnyJ_first {i : Nat} {oi : Oper} {v : Value} (hi : ops[i]? = some oi) (hsel : ∀ (j : Nat) (o : Oper) cs b, ops[j]? = some o → o.op ≠ .select cs b)
    (hQ : ∀ c a w, Q (.panic c) (a.put oi.dst v) w → Q (.panic c) a w) (hQs : ∀ a w w1, J.rel w w1 → Q .normal a w → Q .normal a w1) :
    ∀ (fuel : Nat) (listed : Array Bool) (a : Act) (w : World),
      (∀ j oj, ops[j]? = some oj → j ≠ i → listed.getD j true = false → (∀ e ∈ oj.after, Region.binds md e = true → e.on ≠ i) → oi.apart ops oj = true) →
      i ∈ Region.ready md ops listed → YieldsJ J ops oi v a →
      wpAnyJ J md ops Q fuel (listed.setIfInBounds i true) (a.put oi.dst v) w → wpAnyJ J md ops Q (fuel + 1) listed a w := by
  intro fuel
  induction fuel with
  | zero =>
    intro listed a w _ hr hy H
    refine ⟨fun h => (by rw [h] at hr; cases hr), fun j hj => ?_⟩
    by_cases hji : j = i
    · subst hji; exact hy.wpOpJ hi fun w1 h1 => wpAnyJ_rel hQs h1 H
    · have := ready_mono hj hji
      rw [H.1] at this
      cases this
  | succ fuel ih =>
    intro listed a w hfree hr hy H
    refine ⟨fun h => (by rw [h] at hr; cases hr), fun j hj => ?_⟩
    by_cases hji : j = i
    · subst hji; exact hy.wpOpJ hi fun w1 h1 => wpAnyJ_rel hQs h1 H
    · have h1 := H.2 j (ready_mono hj hji)
      obtain ⟨hjun, oj, hoj, hall⟩ := mem_ready.1 hj
      have hnot : ∀ e ∈ oj.after, Region.binds md e = true → e.on ≠ i := fun e he hb heq => by
        have h1 := hall e he hb
        have h0 := (mem_ready.1 hr).1
        rw [heq] at h1
        rcases Nat.lt_or_ge i listed.size with h' | h'
        · simp [h'] at h0 h1; rw [h0] at h1; cases h1
        · simp [Array.getElem?_eq_none h'] at h1
      have h2 := wpOpJ_put hoj (hfree j oj hoj hji hjun hnot) (fun cs b => hsel i oi cs b hi) (fun cs b => hsel j oj cs b hoj) hQ hy h1
      have hfree' : ∀ k ok, ops[k]? = some ok → k ≠ i → (listed.setIfInBounds j true).getD k true = false →
          (∀ e ∈ ok.after, Region.binds md e = true → e.on ≠ i) → oi.apart ops ok = true := fun k ok hk hki hun hno => by
        refine hfree k ok hk hki ?_ hno
        by_cases hjk : j = k
        · subst hjk; exact hjun
        · rw [getD_set_ne true hjk] at hun; exact hun
      refine wpOpJ_mono (fun a' w' h3 => ih (listed.setIfInBounds j true) a' w' hfree' (ready_mono hr (Ne.symm hji)) h3.1 ?_) h2
      rw [Array.setIfInBounds_comm _ _ hji]
      exact h3.2

end
end Go.Ax
