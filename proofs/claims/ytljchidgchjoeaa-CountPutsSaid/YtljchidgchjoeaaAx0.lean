/- Judgements on one goroutine's run. A judgement tells which sets of states are closed under the goroutine's own steps, whatever the others do meanwhile. Alone: the machine of one goroutine. In company: the others may have turned some blocks, and the count of draws. The rules of the walk, once for all judgements. -/
import Derived.WalkKit
import Derived.StillTail
import Derived.ScopeJumps
import Derived.LoopN
import Derived.Laws.BytesArg
import Derived.RangeFuncRecord
import Derived.Conc.Events
namespace Go.Ax
open Go Go.RowKit

/-! ## What a step may list -/

/-- An expression that comes to no good end. -/
def Dead (P : Program) {α : Type} : Sem α → Prop
  | .pure _ => False
  | .load _ _ k => ∀ v, Dead P (k v)
  | .store _ _ _ k => Dead P k
  | .new _ k => ∀ n, Dead P (k n)
  | .shape _ k => ∀ s, Dead P (k s)
  | .freeze _ _ k => Dead P k
  | .frozen _ k => ∀ b, Dead P (k b)
  | .getObj _ k => ∀ o, Dead P (k o)
  | .setObj _ _ k => Dead P k
  | .choose _ k => ∀ n, Dead P (k n)
  | .sys _ k => ∀ r, Dead P (k r)
  | .program k => Dead P (k P)
  | .mark _ k => Dead P k
  | .halt (.stuck _) => True
  | .halt (.unsupported _) => True
  | .halt _ => False

theorem Dead.bind' {P : Program} {α β : Type} {f : α → Sem β} : ∀ {s : Sem α}, Dead P s → Dead P (s.bind f) := by
  intro s
  induction s with
  | pure a => intro h; exact h.elim
  | load m a k ih => intro h v; exact ih v (h v)
  | store m a v k ih => intro h; exact ih h
  | new o k ih => intro h n; exact ih n (h n)
  | shape r k ih => intro h n; exact ih n (h n)
  | freeze a n k ih => intro h; exact ih h
  | frozen a k ih => intro h n; exact ih n (h n)
  | getObj r k ih => intro h o; exact ih o (h o)
  | setObj r o k ih => intro h; exact ih h
  | choose q k ih => intro h n; exact ih n (h n)
  | sys c k ih => intro h n; exact ih n (h n)
  | program k ih => intro h; exact ih P h
  | mark m k ih => intro h; exact ih h
  | halt h => cases h <;> first | exact fun h => h | exact fun h => h.elim

/-- An expression that says neither 'disable' nor 'enable'; of the second level: that asks for no block's shape (or comes to no good end behind it), and makes no view. -/
def NS (l : Nat) (P : Program) {α : Type} : Sem α → Prop
  | .pure _ => True
  | .load _ _ k => ∀ v, NS l P (k v)
  | .store _ _ _ k => NS l P k
  | .new o k => (2 ≤ l → ∀ a t, o ≠ Obj.view a t) ∧ ∀ n, NS l P (k n)
  | .shape _ k => (l ≤ 1 ∨ ∀ s, Dead P (k s)) ∧ ∀ s, NS l P (k s)
  | .freeze _ _ k => l ≤ 1 ∧ NS l P k
  | .frozen _ k => (l ≤ 1 ∨ ∀ b, Dead P (k b)) ∧ ∀ b, NS l P (k b)
  | .getObj _ k => ∀ o, NS l P (k o)
  | .setObj _ o k => (2 ≤ l → ∀ a t, o ≠ Obj.view a t) ∧ NS l P k
  | .choose _ k => ∀ n, NS l P (k n)
  | .sys _ _ => False
  | .program k => NS l P (k P)
  | .mark m k => (m ≠ .disable ∧ m ≠ .enable) ∧ NS l P k
  | .halt _ => True

theorem NS.bind' {l : Nat} {P : Program} {α β : Type} {f : α → Sem β} (hf : ∀ a, NS l P (f a)) : ∀ {s : Sem α}, NS l P s → NS l P (s.bind f) := by
  intro s
  induction s with
  | pure a => intro _; exact hf a
  | load m a k ih => intro h v; exact ih v (h v)
  | store m a v k ih => intro h; exact ih h
  | new o k ih => intro h; exact ⟨h.1, fun n => ih n (h.2 n)⟩
  | shape r k ih => intro h; exact ⟨h.1.imp id fun h n => Dead.bind' (h n), fun n => ih n (h.2 n)⟩
  | freeze a n k ih => intro h; exact ⟨h.1, ih h.2⟩
  | frozen a k ih => intro h; exact ⟨h.1.imp id fun h n => Dead.bind' (h n), fun n => ih n (h.2 n)⟩
  | getObj r k ih => intro h o; exact ih o (h o)
  | setObj r o k ih => intro h; exact ⟨h.1, ih h.2⟩
  | choose q k ih => intro h n; exact ih n (h n)
  | sys c k ih => intro h; exact h.elim
  | program k ih => intro h; exact ih P h
  | mark m k ih => intro h; exact ⟨h.1, ih h.2⟩
  | halt h => intro _; trivial

theorem NS.bind {l : Nat} {P : Program} {α β : Type} {s : Sem α} {f : α → Sem β} (hs : NS l P s) (hf : ∀ a, NS l P (f a)) : NS l P (s >>= f) := NS.bind' hf hs

/-- One goroutine's record. -/
def gor (fr : Frame) (cs : List Frame) : Goroutine := { frame := fr, callers := cs, status := .running, dying := none }

abbrev SetS := Frame → List Frame → World → Prop

/-- What an expression's run yields, its world aside. -/
def rv {α : Type} : Result α → Except Halt α
  | .ok a _ => .ok a
  | .halt h _ => .error h
def Result.wd {α : Type} : Result α → World
  | .ok _ w => w
  | .halt _ w => w

structure Judg (P : Program) where
  main : Bool
  lvl : Nat
  rel : World → World → Prop
  closed : SetS → Prop
  refl : ∀ w, rel w w
  trans : ∀ a b c, rel a b → rel b c → rel a c
  drawn : ∀ a b, rel a b → ∃ d, b = { a with drawn := d }
  world : ∀ S fr cs w w1, closed S → rel w w1 → S fr cs w → S fr cs w1
  /-- A move of control. -/
  move0 : ∀ S fr cs fr' cs' w, closed S → (∀ w, stepG P main (gor fr cs) w = .go (gor fr' cs') w #[]) → S fr' cs' w → S fr cs w
  /-- A step that carries out an expression. -/
  sem : ∀ (S : SetS) (fr : Frame) (cs : List Frame) (w : World) (α : Type) (s : Sem α) (ok : Except Halt α → Prop) (f : Except Halt α → Frame × List Frame), closed S → (1 ≤ lvl → NS lvl P s) → (∀ m, ¬ ok (.error (.stuck m))) → (∀ m, ¬ ok (.error (.unsupported m))) →
    (∀ w, ok (rv (s.run P w)) → ∃ es, stepG P main (gor fr cs) w = .go (gor (f (rv (s.run P w))).1 (f (rv (s.run P w))).2) (Result.wd (s.run P w)) es ∧ ∀ e ∈ es, e ∈ (s.runT P w #[]).2) →
    (∀ w1, rel w w1 → ok (rv (s.run P w1)) ∧ S (f (rv (s.run P w1))).1 (f (rv (s.run P w1))).2 (Result.wd (s.run P w1))) → S fr cs w

section
variable {P : Program} {J : Judg P} {S : SetS} {b : Frame} {a : Act} {k : List Item} {cs : List Frame} {w : World}

theorem Judg.move (hS : J.closed S) {fr fr' : Frame} {cs cs' : List Frame} (h : ∀ w, stepG P J.main (gor fr cs) w = .go (gor fr' cs') w #[]) (hn : S fr' cs' w) : S fr cs w :=
  J.move0 S fr cs fr' cs' w hS h hn

/-! ## Code -/

/-- No deferring, no range over a function. -/
def flatOp (o : Oper) : Bool := match o.op with | .defer _ => false | _ => true
def flatC : Code → Bool
  | .seq a b => flatC a && flatC b
  | .cond _ a b => flatC a && flatC b
  | .block _ a => flatC a
  | .loop a => flatC a
  | .scope a => flatC a
  | .region _ ops _ => ops.toList.all flatOp
  | .rangeFunc .. => false
  | _ => true

/-- In a round of a range over a function stand neither. -/
def DfOk (b : Frame) (c : Code) : Prop := b.roundOf = none ∨ flatC c = true

theorem DfOk.and {b : Frame} {x y z : Code} (hz : flatC z = (flatC x && flatC y)) (h : DfOk b z) : DfOk b x ∧ DfOk b y := by
  rcases h with h | h
  · exact ⟨.inl h, .inl h⟩
  · rw [hz, Bool.and_eq_true] at h; exact ⟨.inr h.1, .inr h.2⟩
theorem DfOk.eq {b : Frame} {x z : Code} (hz : flatC z = flatC x) (h : DfOk b z) : DfOk b x := h.imp id fun h => by rw [← hz]; exact h

theorem flat_label {l : Nat} : ∀ {c rest : Code}, findLabel c l = some rest → flatC c = true → flatC rest = true := by
  intro c
  induction c with
  | seq x y ihx ihy =>
    intro rest h hc
    simp only [flatC, Bool.and_eq_true] at hc
    simp only [findLabel] at h
    split at h
    · rename_i r hr
      cases h
      simp only [flatC, Bool.and_eq_true]
      exact ⟨ihx hr hc.1, hc.2⟩
    · exact ihy h hc.2
  | label l' =>
    intro rest h _
    simp only [findLabel] at h
    split at h
    · cases h; rfl
    · cases h
  | _ => intro rest h; cases h

/-- Where a piece of code is left. -/
def Arr (S : SetS) (b : Frame) (k : List Item) (cs : List Frame) : Exit → Act → World → Prop
  | .normal, a, w => S (b.atR a k) cs w
  | .exit id, a, w => ∀ k0, exitTo id k0 = exitTo id k → S (b.atR a (.code (.exit id) :: k0)) cs w
  | .goto l, a, w => ∀ k0, gotoIn l k0 = gotoIn l k → S (b.atR a (.code (.goto l) :: k0)) cs w
  | .ret, a, w => ∀ k0, S (b.atR a (.code .ret :: k0)) cs w
  | .panic ch, a, w => ∀ todo, S { b.atR a todo with mode := .panicking ch } cs w
  | .outgrown, _, _ => True

/-- Whatever set is closed: where the ways out lie in it, the beginning does. -/
def wpJ (J : Judg P) (c : Code) (Q : Exit → Act → World → Prop) (a : Act) (w : World) : Prop :=
  ∀ (b : Frame) (k : List Item) (cs : List Frame) (S : SetS), DfOk b c → J.closed S → (∀ e a' w', Q e a' w' → Arr S b k cs e a' w') → S (b.atR a (.code c :: k)) cs w

variable {Q : Exit → Act → World → Prop}

theorem wpJ_mono {c : Code} {Q' : Exit → Act → World → Prop} (h : wpJ J c Q a w) (hq : ∀ e a w, Q e a w → Q' e a w) : wpJ J c Q' a w :=
  fun b k cs S hd hS hQ => h b k cs S hd hS fun e a' w' q => hQ e a' w' (hq _ _ _ q)

theorem wpJ_skip (h : Q .normal a w) : wpJ J .skip Q a w := fun b k cs S _ hS hQ =>
  J.move hS (fun w => by simp [stepG, stepG.exec, Frame.atR, gor]) (hQ _ _ _ h)
theorem wpJ_label {l : Nat} (h : Q .normal a w) : wpJ J (.label l) Q a w := fun b k cs S _ hS hQ =>
  J.move hS (fun w => by simp [stepG, stepG.exec, Frame.atR, gor]) (hQ _ _ _ h)
theorem wpJ_exit {id : Nat} (h : Q (.exit id) a w) : wpJ J (.exit id) Q a w := fun b k cs S _ hS hQ => hQ _ _ _ h k rfl
theorem wpJ_goto {l : Nat} (h : Q (.goto l) a w) : wpJ J (.goto l) Q a w := fun b k cs S _ hS hQ => hQ _ _ _ h k rfl
theorem wpJ_ret (h : Q .ret a w) : wpJ J .ret Q a w := fun b k cs S _ hS hQ => hQ _ _ _ h k

/-- What passes an item that catches nothing. -/
theorem Arr.pass {x : Item} (hx : x.plain = true) {e : Exit} {a : Act} {w : World} (he : e ≠ .normal) (h : Arr S b k cs e a w) : Arr S b (x :: k) cs e a w := by
  cases e with
  | normal => exact absurd rfl he
  | exit id => exact fun k0 hk => h k0 (hk.trans (by cases x <;> simp_all [exitTo, Item.plain]))
  | goto l => exact fun k0 hk => h k0 (hk.trans (by cases x <;> simp_all [gotoIn, Item.plain]))
  | ret => exact h
  | panic ch => exact h
  | outgrown => trivial

theorem wpJ_seq {x y : Code} (h : wpJ J x (Exit.then (wpJ J y Q) Q) a w) : wpJ J (.seq x y) Q a w := fun b k cs S hd hS hQ => by
  obtain ⟨hx, hy⟩ := hd.and (x := x) (y := y) rfl
  refine J.move hS (cs' := cs) (fr' := b.atR a (.code x :: .code y :: k)) (fun w => by simp [stepG, stepG.exec, Frame.atR, gor]) ?_
  refine h b (.code y :: k) cs S hx hS fun e a' w' q => ?_
  cases e with
  | normal => exact q b k cs S hy hS hQ
  | _ => exact Arr.pass (x := .code y) rfl (by simp) (hQ _ _ _ q)

theorem wpJ_cond {c : Operand} {x y : Code} {t : Bool} (hc : a.eval c = .bool t) (h : wpJ J (if t then x else y) Q a w) : wpJ J (.cond c x y) Q a w := fun b k cs S hd hS hQ => by
  obtain ⟨hx, hy⟩ := hd.and (x := x) (y := y) rfl
  refine J.move hS (cs' := cs) (fr' := b.atR a (.code (if t then x else y) :: k)) (fun w => ?_) (h b k cs S (by cases t; exact hy; exact hx) hS hQ)
  have := congrFun (Frame.eval_atR b a (.code (.cond c x y) :: k)) c
  simp only [Frame.atR] at this
  simp [stepG, stepG.exec, Frame.atR, gor, this, hc]
theorem wpJ_cond_true {c : Operand} {x y : Code} (hc : a.eval c = .bool true) (h : wpJ J x Q a w) : wpJ J (.cond c x y) Q a w := wpJ_cond hc h
theorem wpJ_cond_false {c : Operand} {x y : Code} (hc : a.eval c = .bool false) (h : wpJ J y Q a w) : wpJ J (.cond c x y) Q a w := wpJ_cond hc h

theorem wpJ_block {id : Nat} {c : Code} (h : wpJ J c (Exit.inBlock id Q) a w) : wpJ J (.block id c) Q a w := fun b k cs S hd hS hQ => by
  refine J.move hS (cs' := cs) (fr' := b.atR a (.code c :: .inBlock id :: k)) (fun w => by simp [stepG, stepG.exec, Frame.atR, gor]) ?_
  refine h b (.inBlock id :: k) cs S (hd.eq rfl) hS fun e a' w' q => ?_
  cases e with
  | normal => exact J.move hS (fun w => by simp [stepG, stepG.exec, Frame.atR, gor]) (hQ _ _ _ q)
  | exit id' =>
    intro k0 hk
    by_cases hid : id' = id
    · subst hid
      simp only [Exit.inBlock, if_true] at q
      have hk : exitTo id' k0 = some k := hk.trans (by simp [exitTo])
      exact J.move hS (cs' := cs) (fr' := b.atR a' k) (fun w => by simp [stepG, stepG.exec, Frame.atR, gor, hk]) (hQ _ _ _ q)
    · simp only [Exit.inBlock, hid, if_false] at q
      have : (id == id') = false := by simp; exact fun h => hid h.symm
      exact hQ _ _ _ q k0 (hk.trans (by simp [exitTo, this]))
  | goto l => exact fun k0 hk => hQ _ _ _ q k0 (hk.trans (by simp [gotoIn]))
  | ret => exact hQ _ _ _ q
  | panic ch => exact hQ _ _ _ q
  | outgrown => trivial

/-- Round after round, from the body's begin. -/
def InLoopJ (J : Judg P) (c : Code) (Q : Exit → Act → World → Prop) (a : Act) (w : World) : Prop :=
  ∀ (b : Frame) (k : List Item) (cs : List Frame) (S : SetS), DfOk b c → J.closed S → (∀ e a' w', Q e a' w' → Arr S b k cs e a' w') → S (b.atR a (.code c :: .inLoop c :: k)) cs w

theorem InLoopJ.round {c : Code} (h : wpJ J c (Exit.then (InLoopJ J c Q) Q) a w) : InLoopJ J c Q a w := fun b k cs S hd hS hQ => by
  refine h b (.inLoop c :: k) cs S hd hS fun e a' w' q => ?_
  cases e with
  | normal => exact J.move hS (cs' := cs) (fr' := b.atR a' (.code c :: .inLoop c :: k)) (fun w => by simp [stepG, stepG.exec, Frame.atR, gor]) (q b k cs S hd hS hQ)
  | _ => exact Arr.pass (x := .inLoop c) rfl (by simp) (hQ _ _ _ q)

theorem wpJ_loop_in {c : Code} (h : InLoopJ J c Q a w) : wpJ J (.loop c) Q a w := fun b k cs S hd hS hQ =>
  J.move hS (cs' := cs) (fr' := b.atR a (.code c :: .inLoop c :: k)) (fun w => by simp [stepG, stepG.exec, Frame.atR, gor]) (h b k cs S (hd.eq rfl) hS hQ)

/-- Inside a scope, from some place of it on. -/
def InScopeJ (J : Judg P) (body rest : Code) (Q : Exit → Act → World → Prop) (a : Act) (w : World) : Prop :=
  ∀ (b : Frame) (k : List Item) (cs : List Frame) (S : SetS), DfOk b body → DfOk b rest → J.closed S → (∀ e a' w', Q e a' w' → Arr S b k cs e a' w') → S (b.atR a (.code rest :: .inScope body :: k)) cs w

/-- As Q; a jump goes on from its label. -/
def Exit.jumpsJ (J : Judg P) (body : Code) (Q : Exit → Act → World → Prop) : Exit → Act → World → Prop
  | .goto l, a, w => ∃ rest, findLabel body l = some rest ∧ InScopeJ J body rest Q a w
  | e, a, w => Q e a w

theorem InScopeJ.go {body rest : Code} (h : wpJ J rest (Exit.jumpsJ J body Q) a w) : InScopeJ J body rest Q a w := fun b k cs S hd hr hS hQ => by
  refine h b (.inScope body :: k) cs S hr hS fun e a' w' q => ?_
  cases e with
  | normal => exact J.move hS (fun w => by simp [stepG, stepG.exec, Frame.atR, gor]) (hQ _ _ _ q)
  | exit id => exact fun k0 hk => hQ _ _ _ q k0 (hk.trans (by simp [exitTo]))
  | goto l =>
    intro k0 hk
    obtain ⟨rest', hf, hin⟩ := q
    have hk : gotoIn l k0 = some (.code rest' :: .inScope body :: k) := hk.trans (by simp [gotoIn, hf])
    refine J.move hS (cs' := cs) (fr' := b.atR a' (.code rest' :: .inScope body :: k)) (fun w => by simp [stepG, stepG.exec, Frame.atR, gor, hk]) (hin b k cs S hd ?_ hS hQ)
    exact hd.imp id fun h => flat_label hf h
  | ret => exact hQ _ _ _ q
  | panic ch => exact hQ _ _ _ q
  | outgrown => trivial

theorem wpJ_scope_in {body : Code} (h : InScopeJ J body body Q a w) : wpJ J (.scope body) Q a w := fun b k cs S hd hS hQ =>
  J.move hS (cs' := cs) (fr' := b.atR a (.code body :: .inScope body :: k)) (fun w => by simp [stepG, stepG.exec, Frame.atR, gor]) (h b k cs S (hd.eq rfl) (hd.eq rfl) hS hQ)

end
end Go.Ax
