import Derived.WalkKit
import Derived.StillTail
import Derived.ScopeJumps
import Derived.LoopN
import Derived.Laws.BytesArg
import Derived.RangeFuncRecord
import Derived.Conc.Events
namespace Go.Ax
open Go Go.RowKit
def Dead (P : Program) {α : Type} : Sem α → Prop
  | .pure _ => False
  | .load _ _ k => ∀ v, Dead P (k v)
  | .store _ _ _ k => Dead P k
  | .new _ k => ∀ n, Dead P (k n)
  | .shape _ k => ∀ s, Dead P (k s)
  | .freeze _ _ k => Dead P k
  | .frozen _ k => ∀ b, Dead P (k b)
  | .getObj _ k => ∀ o, Dead P (k o)
  | .setObj _ _ k => Dead P k
  | .choose _ k => ∀ n, Dead P (k n)
  | .sys _ k => ∀ r, Dead P (k r)
  | .program k => Dead P (k P)
  | .mark _ k => Dead P k
  | .halt (.stuck _) => True
  | .halt (.unsupported _) => True
  | .halt _ => False
theorem Dead.bind' {P : Program} {α β : Type} {f : α → Sem β} : ∀ {s : Sem α}, Dead P s → Dead P (s.bind f) := by
  intro s
  induction s with
  | pure a => intro h; exact h.elim
  | load m a k ih => intro h v; exact ih v (h v)
  | store m a v k ih => intro h; exact ih h
  | new o k ih => intro h n; exact ih n (h n)
  | shape r k ih => intro h n; exact ih n (h n)
  | freeze a n k ih => intro h; exact ih h
  | frozen a k ih => intro h n; exact ih n (h n)
  | getObj r k ih => intro h o; exact ih o (h o)
  | setObj r o k ih => intro h; exact ih h
  | choose q k ih => intro h n; exact ih n (h n)
  | sys c k ih => intro h n; exact ih n (h n)
  | program k ih => intro h; exact ih P h
  | mark m k ih => intro h; exact ih h
  | halt h => cases h <;> first | exact fun h => h | exact fun h => h.elim
def calmM : Mark → Bool
  | .disable => false
  | .enable => false
  | .read _ => false
  | .write _ => false
  | _ => true
def NS (l : Nat) (P : Program) {α : Type} : Sem α → Prop
  | .pure _ => True
  | .load _ _ k => ∀ v, NS l P (k v)
  | .store _ _ _ k => NS l P k
  | .new o k => (2 ≤ l → ∀ a t, o ≠ Obj.view a t) ∧ ∀ n, NS l P (k n)
  | .shape _ k => (l ≤ 1 ∨ ∀ s, Dead P (k s)) ∧ ∀ s, NS l P (k s)
  | .freeze _ _ k => l ≤ 1 ∧ NS l P k
  | .frozen _ k => (l ≤ 1 ∨ ∀ b, Dead P (k b)) ∧ ∀ b, NS l P (k b)
  | .getObj _ k => ∀ o, NS l P (k o)
  | .setObj _ o k => (2 ≤ l → ∀ a t, o ≠ Obj.view a t) ∧ NS l P k
  | .choose _ k => ∀ n, NS l P (k n)
  | .sys _ _ => False
  | .program k => NS l P (k P)
  | .mark m k => calmM m = true ∧ NS l P k
  | .halt _ => True
theorem NS.bind' {l : Nat} {P : Program} {α β : Type} {f : α → Sem β} (hf : ∀ a, NS l P (f a)) : ∀ {s : Sem α}, NS l P s → NS l P (s.bind f) := by
  intro s
  induction s with
  | pure a => intro _; exact hf a
  | load m a k ih => intro h v; exact ih v (h v)
  | store m a v k ih => intro h; exact ih h
  | new o k ih => intro h; exact ⟨h.1, fun n => ih n (h.2 n)⟩
  | shape r k ih => intro h; exact ⟨h.1.imp id fun h n => Dead.bind' (h n), fun n => ih n (h.2 n)⟩
  | freeze a n k ih => intro h; exact ⟨h.1, ih h.2⟩
  | frozen a k ih => intro h; exact ⟨h.1.imp id fun h n => Dead.bind' (h n), fun n => ih n (h.2 n)⟩
  | getObj r k ih => intro h o; exact ih o (h o)
  | setObj r o k ih => intro h; exact ⟨h.1, ih h.2⟩
  | choose q k ih => intro h n; exact ih n (h n)
  | sys c k ih => intro h; exact h.elim
  | program k ih => intro h; exact ih P h
  | mark m k ih => intro h; exact ⟨h.1, ih h.2⟩
  | halt h => intro _; trivial
theorem NS.bind {l : Nat} {P : Program} {α β : Type} {s : Sem α} {f : α → Sem β} (hs : NS l P s) (hf : ∀ a, NS l P (f a)) : NS l P (s >>= f) := NS.bind' hf hs
def gor (fr : Frame) (cs : List Frame) : Goroutine := { frame := fr, callers := cs, status := .running, dying := none }
abbrev SetS := Frame → List Frame → World → Prop
def rv {α : Type} : Result α → Except Halt α
  | .ok a _ => .ok a
  | .halt h _ => .error h
def Result.wd {α : Type} : Result α → World
  | .ok _ w => w
  | .halt _ w => w
structure Judg (P : Program) where
  main : Bool
  lvl : Nat
  rel : World → World → Prop
  closed : SetS → Prop
  refl : ∀ w, rel w w
  trans : ∀ a b c, rel a b → rel b c → rel a c
  drawn : ∀ a b, rel a b → ∃ d, b = { a with drawn := d }
  world : ∀ S fr cs w w1, closed S → rel w w1 → S fr cs w → S fr cs w1
  /-- A move of control. -/
  move0 : ∀ S fr cs fr' cs' w, closed S → (∀ w, stepG P main (gor fr cs) w = .go (gor fr' cs') w #[]) → S fr' cs' w → S fr cs w
  /-- A step that carries out an expression. -/
  sem : ∀ (S : SetS) (fr : Frame) (cs : List Frame) (w : World) (α : Type) (s : Sem α) (ok : Except Halt α → Prop) (f : Except Halt α → Frame × List Frame), closed S → (1 ≤ lvl → NS lvl P s) → (∀ m, ¬ ok (.error (.stuck m))) → (∀ m, ¬ ok (.error (.unsupported m))) →
    (∀ w, ok (rv (s.run P w)) → ∃ es, stepG P main (gor fr cs) w = .go (gor (f (rv (s.run P w))).1 (f (rv (s.run P w))).2) (Result.wd (s.run P w)) es ∧ ∀ e ∈ es, e ∈ (s.runT P w #[]).2) →
    (∀ w1, rel w w1 → ok (rv (s.run P w1)) ∧ S (f (rv (s.run P w1))).1 (f (rv (s.run P w1))).2 (Result.wd (s.run P w1))) → S fr cs w
section
variable {P : Program} {J : Judg P} {S : SetS} {b : Frame} {a : Act} {k : List Item} {cs : List Frame} {w : World}
theorem Judg.move (hS : J.closed S) {fr fr' : Frame} {cs cs' : List Frame} (h : ∀ w, stepG P J.main (gor fr cs) w = .go (gor fr' cs') w #[]) (hn : S fr' cs' w) : S fr cs w :=
  J.move0 S fr cs fr' cs' w hS h hn
def flatOp (o : Oper) : Bool := match o.op with | .defer _ => false | _ => true
def flatC : Code → Bool
  | .seq a b => flatC a && flatC b
  | .cond _ a b => flatC a && flatC b
  | .block _ a => flatC a
  | .loop a => flatC a
  | .scope a => flatC a
  | .region _ ops _ => ops.toList.all flatOp
  | .rangeFunc .. => false
  | _ => true
def DfOk (b : Frame) (c : Code) : Prop := b.roundOf = none ∨ flatC c = true
theorem DfOk.and {b : Frame} {x y z : Code} (hz : flatC z = (flatC x && flatC y)) (h : DfOk b z) : DfOk b x ∧ DfOk b y := by
  rcases h with h | h
  · exact ⟨.inl h, .inl h⟩
  · rw [hz, Bool.and_eq_true] at h; exact ⟨.inr h.1, .inr h.2⟩
theorem DfOk.eq {b : Frame} {x z : Code} (hz : flatC z = flatC x) (h : DfOk b z) : DfOk b x := h.imp id fun h => by rw [← hz]; exact h
theorem flat_label {l : Nat} : ∀ {c rest : Code}, findLabel c l = some rest → flatC c = true → flatC rest = true := by
  intro c
  induction c with
  | seq x y ihx ihy =>
    intro rest h hc
    simp only [flatC, Bool.and_eq_true] at hc
    simp only [findLabel] at h
    split at h
    · rename_i r hr
      cases h
      simp only [flatC, Bool.and_eq_true]
      exact ⟨ihx hr hc.1, hc.2⟩
    · exact ihy h hc.2
  | label l' =>
    intro rest h _
    simp only [findLabel] at h
    split at h
    · cases h; rfl
    · cases h
  | _ => intro rest h; cases h
def Arr (S : SetS) (b : Frame) (k : List Item) (cs : List Frame) : Exit → Act → World → Prop
  | .normal, a, w => S (b.atR a k) cs w
  | .exit id, a, w => ∀ k0, exitTo id k0 = exitTo id k → S (b.atR a (.code (.exit id) :: k0)) cs w
  | .goto l, a, w => ∀ k0, gotoIn l k0 = gotoIn l k → S (b.atR a (.code (.goto l) :: k0)) cs w
  | .ret, a, w => ∀ k0, S (b.atR a (.code .ret :: k0)) cs w
  | .panic ch, a, w => ∀ todo, S { b.atR a todo with mode := .panicking ch } cs w
  | .outgrown, _, _ => True
def wpJ (J : Judg P) (c : Code) (Q : Exit → Act → World → Prop) (a : Act) (w : World) : Prop :=
  ∀ (b : Frame) (k : List Item) (cs : List Frame) (S : SetS), DfOk b c → J.closed S → (∀ e a' w', Q e a' w' → Arr S b k cs e a' w') → S (b.atR a (.code c :: k)) cs w
variable {Q : Exit → Act → World → Prop}
theorem wpJ_mono {c : Code} {Q' : Exit → Act → World → Prop} (h : wpJ J c Q a w) (hq : ∀ e a w, Q e a w → Q' e a w) : wpJ J c Q' a w :=
  fun b k cs S hd hS hQ => h b k cs S hd hS fun e a' w' q => hQ e a' w' (hq _ _ _ q)
theorem wpJ_skip (h : Q .normal a w) : wpJ J .skip Q a w := fun b k cs S _ hS hQ =>
  J.move hS (fun w => by simp [stepG, stepG.exec, Frame.atR, gor]) (hQ _ _ _ h)
theorem wpJ_label {l : Nat} (h : Q .normal a w) : wpJ J (.label l) Q a w := fun b k cs S _ hS hQ =>
  J.move hS (fun w => by simp [stepG, stepG.exec, Frame.atR, gor]) (hQ _ _ _ h)
theorem wpJ_exit {id : Nat} (h : Q (.exit id) a w) : wpJ J (.exit id) Q a w := fun _b k _cs _S _ _hS hQ => hQ _ _ _ h k rfl
theorem wpJ_goto {l : Nat} (h : Q (.goto l) a w) : wpJ J (.goto l) Q a w := fun _b k _cs _S _ _hS hQ => hQ _ _ _ h k rfl
theorem wpJ_ret (h : Q .ret a w) : wpJ J .ret Q a w := fun _b k _cs _S _ _hS hQ => hQ _ _ _ h k
theorem Arr.pass {x : Item} (hx : x.plain = true) {e : Exit} {a : Act} {w : World} (he : e ≠ .normal) (h : Arr S b k cs e a w) : Arr S b (x :: k) cs e a w := by
  cases e with
  | normal => exact absurd rfl he
  | exit id => exact fun k0 hk => h k0 (hk.trans (by cases x <;> simp_all [exitTo, Item.plain]))
  | goto l => exact fun k0 hk => h k0 (hk.trans (by cases x <;> simp_all [gotoIn, Item.plain]))
  | ret => exact h
  | panic ch => exact h
  | outgrown => trivial
theorem wpJ_seq {x y : Code} (h : wpJ J x (Exit.then (wpJ J y Q) Q) a w) : wpJ J (.seq x y) Q a w := fun b k cs S hd hS hQ => by
  obtain ⟨hx, hy⟩ := hd.and (x := x) (y := y) rfl
  refine J.move hS (cs' := cs) (fr' := b.atR a (.code x :: .code y :: k)) (fun w => by simp [stepG, stepG.exec, Frame.atR, gor]) ?_
  refine h b (.code y :: k) cs S hx hS fun e a' w' q => ?_
  cases e with
  | normal => exact q b k cs S hy hS hQ
  | _ => exact Arr.pass (x := .code y) rfl (by simp) (hQ _ _ _ q)
theorem wpJ_cond {c : Operand} {x y : Code} {t : Bool} (hc : a.eval c = .bool t) (h : wpJ J (if t then x else y) Q a w) : wpJ J (.cond c x y) Q a w := fun b k cs S hd hS hQ => by
  obtain ⟨hx, hy⟩ := hd.and (x := x) (y := y) rfl
  refine J.move hS (cs' := cs) (fr' := b.atR a (.code (if t then x else y) :: k)) (fun w => ?_) (h b k cs S (by cases t; exact hy; exact hx) hS hQ)
  have := congrFun (Frame.eval_atR b a (.code (.cond c x y) :: k)) c
  simp only [Frame.atR] at this
  simp [stepG, stepG.exec, Frame.atR, gor, this, hc]
theorem wpJ_cond_true {c : Operand} {x y : Code} (hc : a.eval c = .bool true) (h : wpJ J x Q a w) : wpJ J (.cond c x y) Q a w := wpJ_cond hc h
theorem wpJ_cond_false {c : Operand} {x y : Code} (hc : a.eval c = .bool false) (h : wpJ J y Q a w) : wpJ J (.cond c x y) Q a w := wpJ_cond hc h
theorem wpJ_block {id : Nat} {c : Code} (h : wpJ J c (Exit.inBlock id Q) a w) : wpJ J (.block id c) Q a w := fun b k cs S hd hS hQ => by
  refine J.move hS (cs' := cs) (fr' := b.atR a (.code c :: .inBlock id :: k)) (fun w => by simp [stepG, stepG.exec, Frame.atR, gor]) ?_
  refine h b (.inBlock id :: k) cs S (hd.eq rfl) hS fun e a' w' q => ?_
  cases e with
  | normal => exact J.move hS (fun w => by simp [stepG, stepG.exec, Frame.atR, gor]) (hQ _ _ _ q)
  | exit id' =>
    intro k0 hk
    by_cases hid : id' = id
    · subst hid
      simp only [Exit.inBlock, if_true] at q
      have hk : exitTo id' k0 = some k := hk.trans (by simp [exitTo])
      exact J.move hS (cs' := cs) (fr' := b.atR a' k) (fun w => by simp [stepG, stepG.exec, Frame.atR, gor, hk]) (hQ _ _ _ q)
    · simp only [Exit.inBlock, hid, if_false] at q
      have : (id == id') = false := by simp; exact fun h => hid h.symm
      exact hQ _ _ _ q k0 (hk.trans (by simp [exitTo, this]))
  | goto l => exact fun k0 hk => hQ _ _ _ q k0 (hk.trans (by simp [gotoIn]))
  | ret => exact hQ _ _ _ q
  | panic ch => exact hQ _ _ _ q
  | outgrown => trivial
def InLoopJ (J : Judg P) (c : Code) (Q : Exit → Act → World → Prop) (a : Act) (w : World) : Prop :=
  ∀ (b : Frame) (k : List Item) (cs : List Frame) (S : SetS), DfOk b c → J.closed S → (∀ e a' w', Q e a' w' → Arr S b k cs e a' w') → S (b.atR a (.code c :: .inLoop c :: k)) cs w
theorem InLoopJ.round {c : Code} (h : wpJ J c (Exit.then (InLoopJ J c Q) Q) a w) : InLoopJ J c Q a w := fun b k cs S hd hS hQ => by
  refine h b (.inLoop c :: k) cs S hd hS fun e a' w' q => ?_
  cases e with
  | normal => exact J.move hS (cs' := cs) (fr' := b.atR a' (.code c :: .inLoop c :: k)) (fun w => by simp [stepG, stepG.exec, Frame.atR, gor]) (q b k cs S hd hS hQ)
  | _ => exact Arr.pass (x := .inLoop c) rfl (by simp) (hQ _ _ _ q)
theorem wpJ_loop_in {c : Code} (h : InLoopJ J c Q a w) : wpJ J (.loop c) Q a w := fun b k cs S hd hS hQ =>
  J.move hS (cs' := cs) (fr' := b.atR a (.code c :: .inLoop c :: k)) (fun w => by simp [stepG, stepG.exec, Frame.atR, gor]) (h b k cs S (hd.eq rfl) hS hQ)
def InScopeJ (J : Judg P) (body rest : Code) (Q : Exit → Act → World → Prop) (a : Act) (w : World) : Prop :=
  ∀ (b : Frame) (k : List Item) (cs : List Frame) (S : SetS), DfOk b body → DfOk b rest → J.closed S → (∀ e a' w', Q e a' w' → Arr S b k cs e a' w') → S (b.atR a (.code rest :: .inScope body :: k)) cs w
def Exit.jumpsJ (J : Judg P) (body : Code) (Q : Exit → Act → World → Prop) : Exit → Act → World → Prop
  | .goto l, a, w => ∃ rest, findLabel body l = some rest ∧ InScopeJ J body rest Q a w
  | e, a, w => Q e a w
theorem InScopeJ.go {body rest : Code} (h : wpJ J rest (Exit.jumpsJ J body Q) a w) : InScopeJ J body rest Q a w := fun b k cs S hd hr hS hQ => by
  refine h b (.inScope body :: k) cs S hr hS fun e a' w' q => ?_
  cases e with
  | normal => exact J.move hS (fun w => by simp [stepG, stepG.exec, Frame.atR, gor]) (hQ _ _ _ q)
  | exit id => exact fun k0 hk => hQ _ _ _ q k0 (hk.trans (by simp [exitTo]))
  | goto l =>
    intro k0 hk
    obtain ⟨rest', hf, hin⟩ := q
    have hk : gotoIn l k0 = some (.code rest' :: .inScope body :: k) := hk.trans (by simp [gotoIn, hf])
    refine J.move hS (cs' := cs) (fr' := b.atR a' (.code rest' :: .inScope body :: k)) (fun w => by simp [stepG, stepG.exec, Frame.atR, gor, hk]) (hin b k cs S hd ?_ hS hQ)
    exact hd.imp id fun h => flat_label hf h
  | ret => exact hQ _ _ _ q
  | panic ch => exact hQ _ _ _ q
  | outgrown => trivial
theorem wpJ_scope_in {body : Code} (h : InScopeJ J body body Q a w) : wpJ J (.scope body) Q a w := fun b k cs S hd hS hQ =>
  J.move hS (cs' := cs) (fr' := b.atR a (.code body :: .inScope body :: k)) (fun w => by simp [stepG, stepG.exec, Frame.atR, gor]) (h b k cs S (hd.eq rfl) (hd.eq rfl) hS hQ)
end
end Go.Ax

namespace Go.Ax
open Go Go.RowKit
section
variable {P : Program} {l : Nat}
def EvCalm (e : Event) : Prop := ∀ m, e.loc = .mark m → calmM m = true
theorem push_all {Q : Event → Prop} {es : Array Event} {x : Event} (h : ∀ e ∈ es, Q e) (hx : Q x) : ∀ e ∈ es.push x, Q e := fun e he => by
  rcases Array.mem_push.1 he with he | rfl
  · exact h e he
  · exact hx
theorem app_all {Q : Event → Prop} {es fs : Array Event} (h : ∀ e ∈ es, Q e) (hx : ∀ e ∈ fs, Q e) : ∀ e ∈ es ++ fs, Q e := fun e he => by
  rcases Array.mem_append.1 he with he | he
  · exact h e he
  · exact hx e he
theorem store_eq {α : Type} {P : Program} {m : Mode} {a : Addr} {v : Value} {k : Sem α} (hv : ¬((∃ c, v = .agg c) ∨ ∃ c, v = .tuple c)) :
    (∀ w, (Sem.store m a v k).run P w = match w.cell? a with
          | some _ => if w.frozen? a then .halt (.unsupported (.unsafePointer "a write to bytes that a string shares")) w else k.run P (w.setCell a v)
          | none => match w.farStore P a v (m == .atomic) with
            | .ok (w, _) => k.run P w
            | .error h => .halt h w) ∧
    ∀ w es, (Sem.store m a v k).runT P w es = match w.cell? a with
          | some _ =>
            if w.frozen? a then (.halt (.unsupported (.unsafePointer "a write to bytes that a string shares")) w, es)
            else k.runT P (w.setCell a v) (es.push ⟨.cell a, true, m == .atomic⟩)
          | none => match w.farStore P a v (m == .atomic) with
            | .ok (w, touched) => k.runT P w (es ++ touched.toArray.map (⟨.cell ·, true, m == .atomic⟩))
            | .error h => (.halt h w, es) := by
  refine ⟨fun w => ?_, fun w es => ?_⟩ <;> cases v <;> first | rfl | exact absurd (.inl ⟨_, rfl⟩) hv | exact absurd (.inr ⟨_, rfl⟩) hv
theorem ns_calm {α : Type} (s : Sem α) : NS l P s → ∀ (w : World) (es : Array Event), (∀ e ∈ es, EvCalm e) → ∀ e ∈ (s.runT P w es).2, EvCalm e := by
  have hc : ∀ (a : Addr) (x y : Bool), EvCalm ⟨.cell a, x, y⟩ := fun a x y => nofun
  induction s with
  | pure a => intro _ w es h; exact h
  | halt a => intro _ w es h; exact h
  | load m a k ih =>
    intro hn w es h
    unfold Sem.runT
    split
    · exact ih _ (hn _) _ _ (push_all h (hc _ _ _))
    · split
      · refine ih _ (hn _) _ _ (app_all h fun e he => ?_)
        simp only [List.map_toArray, List.mem_toArray, List.mem_map] at he
        obtain ⟨x, _, rfl⟩ := he
        exact hc _ _ _
      · exact h
  | store m a v k ih =>
    intro hn w es h
    by_cases hagg : (∃ c, v = .agg c) ∨ ∃ c, v = .tuple c
    · rcases hagg with ⟨c, rfl⟩ | ⟨c, rfl⟩ <;> exact h
    · rw [(store_eq hagg).2]
      split
      · split
        · exact h
        · exact ih hn _ _ (push_all h (hc _ _ _))
      · split
        · refine ih hn _ _ (app_all h fun e he => ?_)
          simp only [List.map_toArray, List.mem_toArray, List.mem_map] at he
          obtain ⟨x, _, rfl⟩ := he
          exact hc _ _ _
        · exact h
  | new o k ih => intro hn w es h; exact ih _ (hn.2 _) _ _ h
  | shape r k ih => intro hn w es h; exact ih _ (hn.2 _) _ _ h
  | freeze a n k ih => intro hn w es h; exact ih hn.2 _ _ h
  | frozen a k ih => intro hn w es h; exact ih _ (hn.2 _) _ _ h
  | getObj r k ih =>
    intro hn w es h
    unfold Sem.runT
    split
    · exact h
    · exact ih _ (hn _) _ _ (push_all h nofun)
    · exact h
  | setObj r o k ih =>
    intro hn w es h
    unfold Sem.runT
    split
    · exact h
    · exact ih hn.2 _ _ (push_all h nofun)
    · exact h
  | choose q k ih =>
    intro hn w es h
    unfold Sem.runT
    split
    · exact ih _ (hn _) _ _ h
    · exact ih _ (hn _) _ _ h
  | sys c k ih => intro hn; exact hn.elim
  | program k ih => intro hn w es h; exact ih _ hn _ _ h
  | mark m k ih => intro hn w es h; exact ih hn.2 _ _ (push_all h fun m' e => by cases e; exact hn.1)
def Res1 : Except Halt Next → Prop
  | .ok (.value _) => True
  | .ok .skip => True
  | .ok (.enter _ _) => True
  | .ok (.defer _) => True
  | .ok (.round _ _ _ _ _) => True
  | .error (.panic _) => True
  | _ => False
def after (P : Program) (fr : Frame) (cs : List Frame) : Except Halt Next → Frame × List Frame
  | .ok (.value v) => (fr.finish v, cs)
  | .ok .skip => (fr.finish undef, cs)
  | .ok (.enter f args) => (Frame.enter P f args .normal, fr :: cs)
  | .ok (.defer d) => ({ fr with defers := d :: fr.defers }.finish undef, cs)
  | .ok (.round l f tmps as bd) => (Frame.round l f tmps as bd .normal, fr :: cs)
  | .error (.panic v) => (fr.raise [{ v, recovered := false }], cs)
  | _ => (fr, cs)
theorem seen_sub {fn : FuncId} {es : Array Event} : ∀ e ∈ seen P fn es, e ∈ es := by
  have key : ∀ (f : Bool × Array Event → Event → Bool × Array Event) (l : List Event) (x : Bool × Array Event) (M : Event → Prop), (∀ x e, M e → (∀ y ∈ x.2, M y) → ∀ y ∈ (f x e).2, M y) → (∀ y ∈ x.2, M y) → (∀ y ∈ l, M y) → ∀ y ∈ (l.foldl f x).2, M y := by
    intro f l
    induction l with
    | nil => intro x M _ hx _; exact hx
    | cons e l ih =>
      intro x M hf hx hl
      rw [List.foldl_cons]
      exact ih _ M hf (hf x e (hl e (by simp)) hx) fun y hy => hl y (by simp [hy])
  dsimp only [seen]
  rw [← Array.foldl_toList]
  refine key _ es.toList _ (fun e => e ∈ es) (fun x e he hx y hy => ?_) (by simp) (fun y hy => by simpa using hy)
  split at hy
  · exact hx y hy
  · split at hy
    · exact hx y hy
    · rcases Array.mem_push.1 hy with h | rfl
      · exact hx y h
      · exact he
theorem apply_eq {fr : Frame} {cs : List Frame} {s : Sem Next} {w : World} (hr : Res1 (rv (s.run P w))) (hk : ∀ d r sv k, fr.todo ≠ .call d true r sv :: k) :
    ∃ es, stepG.apply P true fr cs none s w = .go (gor (after P fr cs (rv (s.run P w))).1 (after P fr cs (rv (s.run P w))).2) (Result.wd (s.run P w)) es ∧ ∀ e ∈ es, e ∈ (s.runT P w #[]).2 := by
  have hsub : ∀ e ∈ seen P fr.fn (if fr.kind == .early then #[] else s.events P w #[]), e ∈ (s.runT P w #[]).2 := fun e he => by
    have := seen_sub e he
    split at this
    · simp at this
    · exact this
  generalize hq : s.run P w = r at hr
  have e0 : s.runT P w #[] = (r, s.events P w #[]) := by rw [Sem.runT_eq, hq]
  unfold stepG.apply
  simp only [e0, if_true]
  cases r with
  | ok n w' =>
    cases n with
    | enter f args =>
      rcases ht : fr.todo with _ | ⟨it, k⟩
      · exact ⟨_, by simp only [GStep.after, after, gor, Result.wd, rv]; rfl, by simpa using hsub⟩
      · rw [ht] at hk
        cases it with
        | call d wr r sv =>
          cases wr with
          | true => exact absurd rfl (hk _ _ _ _)
          | false => exact ⟨_, by simp only [GStep.after, after, gor, Result.wd, rv]; rfl, by simpa using hsub⟩
        | _ => exact ⟨_, by simp only [GStep.after, after, gor, Result.wd, rv]; rfl, by simpa using hsub⟩
    | _ => first | exact hr.elim | exact ⟨_, by simp only [GStep.after, after, gor, Result.wd, rv]; rfl, by simpa using hsub⟩
  | halt x w' =>
    cases x <;> first | exact hr.elim | exact ⟨_, by simp only [GStep.after, after, gor, Result.wd, rv]; rfl, by simpa using hsub⟩
section
variable {J : Judg P} {S : SetS} {w : World}
theorem Judg.opStep (hS : J.closed S) {fr : Frame} {cs : List Frame} {s : Sem Next} (hstep : ∀ w, stepG P J.main (gor fr cs) w = stepG.apply P true fr cs none s w)
    (hk : ∀ d r sv k, fr.todo ≠ .call d true r sv :: k) (hns : 1 ≤ J.lvl → NS J.lvl P s)
    (h : ∀ w1, J.rel w w1 → Res1 (rv (s.run P w1)) ∧ S (after P fr cs (rv (s.run P w1))).1 (after P fr cs (rv (s.run P w1))).2 (Result.wd (s.run P w1))) : S fr cs w :=
  J.sem S fr cs w Next s Res1 (after P fr cs) hS hns (fun _ h => h) (fun _ h => h) (fun w hw => by
    obtain ⟨es, he, hsub⟩ := apply_eq (P := P) (fr := fr) (cs := cs) hw hk
    exact ⟨es, (hstep w).trans he, hsub⟩) h
end
end
end Go.Ax

namespace Go.Ax
open Go Go.RowKit
section
variable {P : Program} {J : Judg P}
def Back (S : SetS) (c : Frame) (cs : List Frame) : Ending → World → Prop
  | .returned v, w => S (c.finish v) cs w
  | .panicked ch, w => S (c.raise ch) cs w
  | .outgrown, _ => True
def CallsJ (J : Judg P) (f : FuncId) (args : Array Value) (w : World) (R : Ending → World → Prop) : Prop :=
  ∀ (c : Frame) (cs : List Frame) (S : SetS), J.closed S → (∀ e w', R e w' → Back S c cs e w') → S (Frame.enter P f args .normal) (c :: cs) w
theorem CallsJ.mono {f : FuncId} {args : Array Value} {w : World} {R R' : Ending → World → Prop} (h : CallsJ J f args w R) (hr : ∀ e w', R e w' → R' e w') : CallsJ J f args w R' :=
  fun c cs S hS hR => h c cs S hS fun e w' q => hR e w' (hr _ _ q)
def RoundJ (J : Judg P) (l : Nat) (f : FuncId) (tmps : Array Value) (as bd : Code) (w : World) (R : Ending → World → Prop) : Prop :=
  ∀ (c : Frame) (cs : List Frame) (S : SetS), J.closed S → (∀ e w', R e w' → Back S c cs e w') → S (Frame.round l f tmps as bd .normal) (c :: cs) w
theorem RoundJ.mono {l : Nat} {f : FuncId} {tmps : Array Value} {as bd : Code} {w : World} {R R' : Ending → World → Prop} (h : RoundJ J l f tmps as bd w R) (hr : ∀ e w', R e w' → R' e w') : RoundJ J l f tmps as bd w R' :=
  fun c cs S hS hR => h c cs S hS fun e w' q => hR e w' (hr _ _ q)
def callEnd (o : Oper) (a : Act) (next : Act → World → Prop) (Q : Exit → Act → World → Prop) : Ending → World → Prop
  | .returned v, w => next (a.put o.dst v) w
  | .panicked chain, w => Q (.panic chain) a w
  | .outgrown, _ => False
def uponJ (J : Judg P) (o : Oper) (a : Act) (next : Act → World → Prop) (Q : Exit → Act → World → Prop) : Result Next → Prop
  | .ok (.value v) w' => next (a.put o.dst v) w'
  | .ok .skip w' => next (a.put o.dst undef) w'
  | .ok (.defer d) w' => next ({ a with defers := d :: a.defers }.put o.dst undef) w'
  | .ok (.enter f args) w' => CallsJ J f args w' (callEnd o a next Q)
  | .ok (.round l f tmps as bd) w' => RoundJ J l f tmps as bd w' (callEnd o a next Q)
  | .halt (.panic v) w' => Q (.panic [{ v, recovered := false }]) a w'
  | _ => False
theorem uponJ.res {o : Oper} {a : Act} {next : Act → World → Prop} {Q : Exit → Act → World → Prop} {r : Result Next} (h : uponJ J o a next Q r) : Res1 (rv r) := by
  cases r with
  | ok n w => cases n <;> first | trivial | exact h.elim
  | halt x w => cases x <;> first | trivial | exact h.elim
def opJ (J : Judg P) (o : Oper) (a : Act) (w : World) (next : Act → World → Prop) (Q : Exit → Act → World → Prop) : Prop :=
  (1 ≤ J.lvl → NS J.lvl P (execOp a.eval o)) ∧ ∀ w1, J.rel w w1 → uponJ J o a next Q ((execOp a.eval o).run P w1)
theorem callEnd_mono {o : Oper} {a : Act} {K K' : Act → World → Prop} {Q : Exit → Act → World → Prop} (h : ∀ a w, K a w → K' a w) : ∀ e w, callEnd o a K Q e w → callEnd o a K' Q e w := by
  intro e w he
  cases e with
  | returned v => exact h _ _ he
  | panicked c => exact he
  | outgrown => exact he
theorem uponJ_mono {o : Oper} {a : Act} {K K' : Act → World → Prop} {Q : Exit → Act → World → Prop} (h : ∀ a w, K a w → K' a w) {r : Result Next} (hh : uponJ J o a K Q r) : uponJ J o a K' Q r := by
  cases r with
  | ok n w' =>
    cases n <;> first
      | exact h _ _ hh
      | exact CallsJ.mono hh (callEnd_mono h)
      | exact RoundJ.mono hh (callEnd_mono h)
      | exact hh.elim
  | halt x w' => cases x <;> first | exact hh | exact hh.elim
theorem opJ_mono {o : Oper} {a : Act} {w : World} {K K' : Act → World → Prop} {Q : Exit → Act → World → Prop} (h : ∀ a w, K a w → K' a w) (hh : opJ J o a w K Q) : opJ J o a w K' Q :=
  ⟨hh.1, fun w1 h1 => uponJ_mono h (hh.2 w1 h1)⟩
variable {ops : Array Oper} {Q : Exit → Act → World → Prop} {md : Region.Mode}
def wpOpJ (J : Judg P) (ops : Array Oper) (Q : Exit → Act → World → Prop) (i : Nat) (K : Act → World → Prop) (a : Act) (w : World) : Prop :=
  match ops[i]? with
  | none => K a w
  | some o => if Region.wanted o (yielded ops a.tmps) then opJ J o a w K Q else K (a.put o.dst undef) w
theorem wpOpJ_mono {i : Nat} {a : Act} {w : World} {K K' : Act → World → Prop} (h : ∀ a w, K a w → K' a w) (hh : wpOpJ J ops Q i K a w) : wpOpJ J ops Q i K' a w := by
  unfold wpOpJ at *
  split
  · exact h _ _ (by simpa [*] using hh)
  · rename_i o ho
    simp only [ho] at hh
    split
    · rename_i hw; simp only [hw, if_true] at hh; exact opJ_mono h hh
    · rename_i hw; simp only [hw] at hh; exact h _ _ hh
def wpOpsJ (J : Judg P) (ops : Array Oper) (Q : Exit → Act → World → Prop) : List Nat → Act → World → Prop
  | [], a, w => Q .normal a w
  | i :: rest, a, w => wpOpJ J ops Q i (wpOpsJ J ops Q rest) a w
theorem opsJ_sound : ∀ (l : List Nat) (a : Act) (w : World), wpOpsJ J ops Q l a w → ∀ (b : Frame) (k : List Item) (cs : List Frame) (S : SetS), (b.roundOf = none ∨ ops.toList.all flatOp = true) → J.closed S →
    (∀ e a' w', Q e a' w' → Arr S b k cs e a' w') → S (b.atR a (.inRegion ops l :: k)) cs w
  | [], a, w, h, b, k, cs, S, _, hS, hQ => J.move hS (cs' := cs) (fr' := b.atR a k) (fun w => by simp [stepG, stepG.exec, Frame.atR, gor]) (hQ _ _ _ h)
  | i :: rest, a, w, h, b, k, cs, S, hd, hS, hQ => by
    have hfin : ∀ v, (b.atR a (.inRegion ops (i :: rest) :: k)).finish v = b.atR (a.put ((ops[i]?).bind (·.dst)) v) (.inRegion ops rest :: k) := fun v => Frame.finish_atR b a ops i rest k v
    have hskip : ((ops[i]?).map (Region.wanted · (yielded ops a.tmps))).getD false = false → S (b.atR (a.put ((ops[i]?).bind (·.dst)) undef) (.inRegion ops rest :: k)) cs w → S (b.atR a (.inRegion ops (i :: rest) :: k)) cs w := fun hw hn => by
      refine J.move hS (fun w => ?_) hn
      rw [← hfin]
      simp only [Frame.atR] at *
      simp [stepG, stepG.exec, gor, hw]
    simp only [wpOpsJ, wpOpJ] at h
    cases ho : ops[i]? with
    | none =>
      rw [ho] at h hskip
      exact hskip rfl (opsJ_sound rest a w h b k cs S hd hS hQ)
    | some o =>
      rw [ho] at h hskip hfin
      by_cases hw : Region.wanted o (yielded ops a.tmps) = true
      · simp only [hw, if_true] at h
        obtain ⟨hns, hup⟩ := h
        have hnd : b.roundOf = none ∨ ∀ c, o.op ≠ .defer c := hd.imp id fun h c e => by
          have := List.all_eq_true.1 h o (by simpa using Array.mem_of_getElem? ho)
          unfold flatOp at this
          rw [e] at this
          cases this
        refine J.opStep hS (s := execOp a.eval o) (fun w => ?_) (by simp [Frame.atR]) hns fun w1 h1 => ?_
        · have he := Frame.eval_atR b a (.inRegion ops (i :: rest) :: k)
          simp only [Frame.atR] at he
          simp only [stepG, stepG.exec, stepG.oper, Frame.oper?, Frame.atR, gor, ho, hw, he, Option.map_some, Option.getD_some, if_true]
          rcases hnd with hb | hb
          · rw [hb]
          · cases hr : b.roundOf with
            | none => rfl
            | some l => cases hop : o.op <;> first | rfl | exact absurd hop (hb _)
        · have hu := hup w1 h1
          refine ⟨hu.res, ?_⟩
          generalize (execOp a.eval o).run P w1 = r at hu
          have hend : ∀ e w', callEnd o a (wpOpsJ J ops Q rest) Q e w' → Back S (b.atR a (.inRegion ops (i :: rest) :: k)) cs e w' := fun e w' he => by
            cases e with
            | returned v => show S _ _ _; rw [hfin]; exact opsJ_sound rest _ _ he b k cs S hd hS hQ
            | panicked ch => exact hQ _ _ _ he (.inRegion ops (i :: rest) :: k)
            | outgrown => trivial
          cases r with
          | ok n w' =>
            cases n with
            | value v => simp only [after, rv, Result.wd]; rw [hfin]; exact opsJ_sound rest _ _ hu b k cs S hd hS hQ
            | skip => simp only [after, rv, Result.wd]; rw [hfin]; exact opsJ_sound rest _ _ hu b k cs S hd hS hQ
            | defer d =>
              have := Frame.finish_atR b { a with defers := d :: a.defers } ops i rest k undef
              rw [ho] at this
              simp only [after, rv, Result.wd]
              have e : ({ b.atR a (.inRegion ops (i :: rest) :: k) with defers := d :: (b.atR a (.inRegion ops (i :: rest) :: k)).defers } : Frame) = b.atR { a with defers := d :: a.defers } (.inRegion ops (i :: rest) :: k) := rfl
              rw [e, this]
              exact opsJ_sound rest _ _ hu b k cs S hd hS hQ
            | enter f args => exact hu _ _ S hS hend
            | round l f tmps as bd => exact hu _ _ S hS hend
            | _ => exact hu.elim
          | halt x w' =>
            cases x with
            | panic v => exact hQ _ _ _ hu (.inRegion ops (i :: rest) :: k)
            | _ => exact hu.elim
      · simp only [hw] at h
        exact hskip (by simpa using hw) (opsJ_sound rest _ w h b k cs S hd hS hQ)
theorem wpJ_region {id : Nat} {a : Act} {w : World} (h : wpOpsJ J ops Q (List.range ops.size) a w) : wpJ J (.region id ops false) Q a w := fun b k cs S hd hS hQ =>
  J.move hS (cs' := cs) (fr' := b.atR a (.inRegion ops (List.range ops.size) :: k)) (fun w => by simp [stepG, stepG.exec, Frame.atR, gor]) (opsJ_sound _ _ _ h b k cs S hd hS hQ)
theorem wpJ_region_draw {id : Nat} {a : Act} {w : World} (h : ∀ w1, J.rel w w1 → ∀ t, wpOpsJ J ops Q (Region.schedule (P.follows .mixedOrders) ops t) a { w1 with drawn := w1.drawn + 1 }) : wpJ J (.region id ops true) Q a w := fun b k cs S hd hS hQ =>
  J.sem S _ _ w Nat (choose (.order b.fn id)) (fun r => ∃ t, r = .ok t) (fun r => match r with
      | .ok t => (b.atR a (.inRegion ops (Region.schedule (P.follows .mixedOrders) ops t) :: k), cs)
      | _ => (b, cs)) hS (fun _ => fun _ => trivial) (fun m h => by obtain ⟨_, h⟩ := h; cases h) (fun m h => by obtain ⟨_, h⟩ := h; cases h)
    (fun w1 _ => ⟨#[], by simp [stepG, stepG.exec, Frame.atR, gor, choose, Sem.run, Question.forced, Question.cut, rv, Result.wd], by simp⟩)
    (fun w1 h1 => ⟨⟨w1.tape w1.drawn (.order b.fn id), by simp [choose, Sem.run, Question.forced, Question.cut, rv]⟩, by
      have := opsJ_sound _ _ _ (h w1 h1 (w1.tape w1.drawn (.order b.fn id))) b k cs S hd hS hQ
      simpa [choose, Sem.run, Question.forced, Question.cut, rv, Result.wd] using this⟩)
def wpListJ (J : Judg P) (ops : Array Oper) (Q : Exit → Act → World → Prop) : List Oper → Act → World → Prop
  | [], a, w => Q .normal a w
  | o :: rest, a, w => if Region.wanted o (yielded ops a.tmps) then opJ J o a w (wpListJ J ops Q rest) Q else wpListJ J ops Q rest (a.put o.dst undef) w
theorem opsJ_listJ (l : List Oper) : ∀ k, (∀ j, l[j]? = ops[k + j]?) → wpOpsJ J ops Q (List.range' k l.length) = wpListJ J ops Q l := by
  induction l with
  | nil => intro k _; funext a w; simp [wpOpsJ, wpListJ]
  | cons o l ih =>
    intro k h
    have h0 : ops[k]? = some o := by simpa using (h 0).symm
    have ih' := ih (k + 1) (fun j => by have := h (j + 1); simpa [Nat.add_assoc, Nat.add_comm 1 j] using this)
    funext a w
    simp only [List.length_cons, List.range'_succ, wpOpsJ, wpListJ, wpOpJ, h0, ih']
theorem wpJ_region_list {id : Nat} {a : Act} {w : World} (h : wpListJ J ops Q ops.toList a w) : wpJ J (.region id ops false) Q a w :=
  wpJ_region (by rw [List.range_eq_range', ← Array.length_toList, opsJ_listJ ops.toList 0 (by simp)]; exact h)
def wpAnyJ (J : Judg P) (md : Region.Mode) (ops : Array Oper) (Q : Exit → Act → World → Prop) : Nat → Array Bool → Act → World → Prop
  | 0, listed, a, w => Region.ready md ops listed = [] ∧ Q .normal a w
  | fuel + 1, listed, a, w => (Region.ready md ops listed = [] → Q .normal a w) ∧ ∀ i ∈ Region.ready md ops listed, wpOpJ J ops Q i (wpAnyJ J md ops Q fuel (listed.setIfInBounds i true)) a w
theorem wpAnyJ_sound : ∀ (fuel t : Nat) (listed : Array Bool) (a : Act) (w : World), wpAnyJ J md ops Q fuel listed a w → wpOpsJ J ops Q (Region.linearise.go md ops fuel t listed []) a w := by
  intro fuel
  induction fuel with
  | zero => intro t listed a w h; simpa [Region.linearise.go, wpOpsJ] using h.2
  | succ fuel ih =>
    intro t listed a w h
    obtain ⟨h₀, h₁⟩ := h
    simp only [Region.linearise.go]
    change wpOpsJ J ops Q (match (Region.ready md ops listed)[t % (Region.ready md ops listed).length]? with
      | some i => Region.linearise.go md ops fuel (t / (Region.ready md ops listed).length) (listed.setIfInBounds i true) [i]
      | none => [].reverse) a w
    cases hi : (Region.ready md ops listed)[t % (Region.ready md ops listed).length]? with
    | none =>
      have hnil : Region.ready md ops listed = [] := by
        cases hr : Region.ready md ops listed with
        | nil => rfl
        | cons x xs =>
          rw [hr] at hi
          have hlt : t % (x :: xs).length < (x :: xs).length := Nat.mod_lt _ (by simp)
          simp at hi
          simp at hlt
          omega
      simpa [wpOpsJ] using h₀ hnil
    | some i =>
      simp only []
      rw [linearise_go_acc, List.reverse_singleton, List.singleton_append, wpOpsJ]
      exact wpOpJ_mono (fun a w => ih _ _ a w) (h₁ i (List.mem_of_getElem? hi))
theorem wpJ_region_any {id : Nat} {a : Act} {w : World} (hm : P.follows .mixedOrders = true) (h : ∀ w1, J.rel w w1 → wpAnyJ J .any ops Q ops.size (Array.replicate ops.size false) a { w1 with drawn := w1.drawn + 1 }) : wpJ J (.region id ops true) Q a w :=
  wpJ_region_draw fun w1 h1 t => by
    simp only [Region.schedule, hm, Bool.true_or, if_true]
    exact wpAnyJ_sound ops.size t _ a _ (h w1 h1)
theorem wpAnyJ_of_seq : ∀ (l : List Oper) (k : Nat) (listed : Array Bool) (a : Act) (w : World), (∀ j, l[j]? = ops[k + j]?) → Region.seqB md ops l.length k listed = true → wpListJ J ops Q l a w → wpAnyJ J md ops Q l.length listed a w
  | [], _, _, _, _, _, hB, h => ⟨by simpa [Region.seqB] using hB, h⟩
  | o :: l, k, listed, a, w, hl, hB, h => by
    have h0 : ops[k]? = some o := by simpa using (hl 0).symm
    simp only [List.length_cons, Region.seqB, Bool.and_eq_true, decide_eq_true_eq] at hB
    refine ⟨fun h1 => (by rw [hB.1] at h1; cases h1), fun i hi => ?_⟩
    rw [hB.1] at hi
    have hik : i = k := by simpa using hi
    subst hik
    have hw : wpOpJ J ops Q i (wpListJ J ops Q l) a w := by unfold wpOpJ; simp only [h0]; exact h
    exact wpOpJ_mono (fun a' w' h' => wpAnyJ_of_seq l (i + 1) _ a' w' (fun j => by have := hl (j + 1); simpa [Nat.add_assoc, Nat.add_comm 1 j] using this) hB.2 h') hw
def YieldsJ (J : Judg P) (ops : Array Oper) (o : Oper) (v : Value) (a : Act) : Prop :=
  (Region.wanted o (yielded ops a.tmps) = true ∧ (1 ≤ J.lvl → NS J.lvl P (execOp a.eval o)) ∧ ∀ w, (execOp a.eval o).run P w = .ok (.value v) w) ∨
  (Region.wanted o (yielded ops a.tmps) = false ∧ v = undef)
theorem YieldsJ.wpOpJ {i : Nat} {o : Oper} {v : Value} {a : Act} (hi : ops[i]? = some o) (hy : YieldsJ J ops o v a) {K : Act → World → Prop} {w : World} (h : ∀ w1, J.rel w w1 → K (a.put o.dst v) w1) : wpOpJ J ops Q i K a w := by
  unfold Go.Ax.wpOpJ
  simp only [hi]
  rcases hy with ⟨hw, hn, hv⟩ | ⟨hw, rfl⟩
  · simp only [hw, if_true]
    exact ⟨hn, fun w1 h1 => by rw [hv w1]; exact h w1 h1⟩
  · simp only [hw, Bool.false_eq_true, if_false]; exact h w (J.refl w)
theorem YieldsJ.of_same {o : Oper} {v : Value} {a a' : Act} (hy : YieldsJ J ops o v a) (he : execOp a'.eval o = execOp a.eval o)
    (hw : Region.wanted o (yielded ops a'.tmps) = Region.wanted o (yielded ops a.tmps)) : YieldsJ J ops o v a' := by
  unfold YieldsJ at *
  rw [he, hw]
  exact hy
theorem wpOpJ_put {j : Nat} {oi oj : Oper} {v : Value} (hj : ops[j]? = some oj) (hap : oi.apart ops oj = true)
    (hsi : ∀ cs b, oi.op ≠ .select cs b) (hsj : ∀ cs b, oj.op ≠ .select cs b)
    (hQ : ∀ c a w, Q (.panic c) (a.put oi.dst v) w → Q (.panic c) a w) {K : Act → World → Prop} {a : Act} {w : World}
    (hy : YieldsJ J ops oi v a) (h : wpOpJ J ops Q j K (a.put oi.dst v) w) :
    wpOpJ J ops Q j (fun a' w' => YieldsJ J ops oi v a' ∧ K (a'.put oi.dst v) w') a w := by
  obtain ⟨h1, h2, h3⟩ := Oper.apart_spec hap
  have keep : ∀ (a : Act), YieldsJ J ops oi v a → ∀ u, YieldsJ J ops oi v (a.put oj.dst u) := fun a hy u =>
    hy.of_same (execOp_put oi hsi a oj.dst u h3) (wanted_put oi a oj.dst u h3)
  have keepD : ∀ d, YieldsJ J ops oi v { a with defers := d :: a.defers } := fun d => hy.of_same rfl rfl
  have hend : ∀ e w', callEnd oj (a.put oi.dst v) K Q e w' → callEnd oj a (fun a' w' => YieldsJ J ops oi v a' ∧ K (a'.put oi.dst v) w') Q e w' := fun e w' he => by
    cases e with
    | returned u => exact ⟨keep a hy u, by rw [← Act.put_comm a v u h2]; exact he⟩
    | panicked c => exact hQ _ _ _ he
    | outgrown => exact he
  unfold wpOpJ at *
  simp only [hj] at *
  rw [wanted_put oj a oi.dst v h1] at h
  split
  · rename_i hw
    simp only [hw, if_true] at h
    unfold opJ at *
    rw [execOp_put oj hsj a oi.dst v h1] at h
    refine ⟨h.1, fun w1 hw1 => ?_⟩
    have h := h.2 w1 hw1
    generalize (execOp a.eval oj).run P w1 = r at *
    cases r with
    | ok n w' =>
      cases n <;> simp only [uponJ] at h ⊢
      case value u => exact ⟨keep a hy u, by rw [← Act.put_comm a v u h2]; exact h⟩
      case skip => exact ⟨keep a hy _, by rw [← Act.put_comm a v undef h2]; exact h⟩
      case defer d =>
        refine ⟨keep _ (keepD d) _, ?_⟩
        rw [← Act.put_comm _ v undef h2, ← Act.put_defers]
        exact h
      case enter f args => exact CallsJ.mono h hend
      case round l f tmps as bd => exact RoundJ.mono h hend
    | halt x w' =>
      cases x <;> simp only [uponJ] at h ⊢
      case panic u => exact hQ _ _ _ h
  · rename_i hw
    simp only [hw] at h
    exact ⟨keep a hy _, by rw [← Act.put_comm a v undef h2]; exact h⟩
theorem wpAnyJ_rel (hQ : ∀ a w w1, J.rel w w1 → Q .normal a w → Q .normal a w1) : ∀ {fuel : Nat} {listed : Array Bool} {a : Act} {w w1 : World}, J.rel w w1 → wpAnyJ J md ops Q fuel listed a w → wpAnyJ J md ops Q fuel listed a w1
  | 0, _, _, _, _, h1, h => ⟨h.1, hQ _ _ _ h1 h.2⟩
  | fuel + 1, listed, a, w, w1, h1, h => ⟨fun h0 => hQ _ _ _ h1 (h.1 h0), fun i hi => by
      have := h.2 i hi
      unfold wpOpJ at this ⊢
      cases ho : ops[i]? with
      | none => rw [mem_ready] at hi; obtain ⟨_, o, ho', _⟩ := hi; rw [ho] at ho'; cases ho'
      | some o =>
        rw [ho] at this
        simp only at this ⊢
        split at this
        · rename_i hw
          rw [if_pos hw]
          exact ⟨this.1, fun w2 h2 => this.2 w2 (J.trans _ _ _ h1 h2)⟩
        · rename_i hw
          rw [if_neg hw]
          exact wpAnyJ_rel hQ h1 this⟩
theorem wpAnyJ_first {i : Nat} {oi : Oper} {v : Value} (hi : ops[i]? = some oi) (hsel : ∀ (j : Nat) (o : Oper) cs b, ops[j]? = some o → o.op ≠ .select cs b)
    (hQ : ∀ c a w, Q (.panic c) (a.put oi.dst v) w → Q (.panic c) a w) (hQs : ∀ a w w1, J.rel w w1 → Q .normal a w → Q .normal a w1) :
    ∀ (fuel : Nat) (listed : Array Bool) (a : Act) (w : World),
      (∀ j oj, ops[j]? = some oj → j ≠ i → listed.getD j true = false → (∀ e ∈ oj.after, Region.binds md e = true → e.on ≠ i) → oi.apart ops oj = true) →
      i ∈ Region.ready md ops listed → YieldsJ J ops oi v a →
      wpAnyJ J md ops Q fuel (listed.setIfInBounds i true) (a.put oi.dst v) w → wpAnyJ J md ops Q (fuel + 1) listed a w := by
  intro fuel
  induction fuel with
  | zero =>
    intro listed a w _ hr hy H
    refine ⟨fun h => (by rw [h] at hr; cases hr), fun j hj => ?_⟩
    by_cases hji : j = i
    · subst hji; exact hy.wpOpJ hi fun w1 h1 => wpAnyJ_rel hQs h1 H
    · have := ready_mono hj hji
      rw [H.1] at this
      cases this
  | succ fuel ih =>
    intro listed a w hfree hr hy H
    refine ⟨fun h => (by rw [h] at hr; cases hr), fun j hj => ?_⟩
    by_cases hji : j = i
    · subst hji; exact hy.wpOpJ hi fun w1 h1 => wpAnyJ_rel hQs h1 H
    · have h1 := H.2 j (ready_mono hj hji)
      obtain ⟨hjun, oj, hoj, hall⟩ := mem_ready.1 hj
      have hnot : ∀ e ∈ oj.after, Region.binds md e = true → e.on ≠ i := fun e he hb heq => by
        have h1 := hall e he hb
        have h0 := (mem_ready.1 hr).1
        rw [heq] at h1
        rcases Nat.lt_or_ge i listed.size with h' | h'
        · simp [h'] at h0 h1; rw [h0] at h1; cases h1
        · simp [Array.getElem?_eq_none h'] at h1
      have h2 := wpOpJ_put hoj (hfree j oj hoj hji hjun hnot) (fun cs b => hsel i oi cs b hi) (fun cs b => hsel j oj cs b hoj) hQ hy h1
      have hfree' : ∀ k ok, ops[k]? = some ok → k ≠ i → (listed.setIfInBounds j true).getD k true = false →
          (∀ e ∈ ok.after, Region.binds md e = true → e.on ≠ i) → oi.apart ops ok = true := fun k ok hk hki hun hno => by
        refine hfree k ok hk hki ?_ hno
        by_cases hjk : j = k
        · subst hjk; exact hjun
        · rw [getD_set_ne true hjk] at hun; exact hun
      refine wpOpJ_mono (fun a' w' h3 => ih (listed.setIfInBounds j true) a' w' hfree' (ready_mono hr (Ne.symm hji)) h3.1 ?_) h2
      rw [Array.setIfInBounds_comm _ _ hji]
      exact h3.2
end
end Go.Ax

namespace Go.Ax
open Go Go.RowKit
section
variable {P : Program} {l : Nat}
theorem ns_pure {α : Type} (a : α) : NS l P (pure a : Sem α) := trivial
theorem ns_stuck {α : Type} (m : String) : NS l P (stuck m : Sem α) := trivial
theorem ns_uns {α : Type} (m : Unsupported) : NS l P (unsupported m : Sem α) := trivial
theorem ns_goPanic {α : Type} (m : Value) : NS l P (goPanic m : Sem α) := trivial
theorem ns_program : NS l P program := trivial
theorem ns_load (a : Addr) (m : Mode) : NS l P (load a m) := fun _ => trivial
theorem ns_store (a : Addr) (v : Value) (m : Mode) : NS l P (store a v m) := trivial
theorem ns_choose (q : Question) : NS l P (choose q) := fun _ => trivial
theorem ns_getObj (r : Nat) : NS l P (getObj r) := fun _ => trivial
theorem ns_cells (c : Array Value) (t : TypeId) : NS l P (newObj (.cells c t)) := ⟨fun _ _ _ e => (by cases e), fun _ => trivial⟩
theorem ns_mapO (c : Array MapEntry) (t : Nat) : NS l P (newObj (.map c t)) := ⟨fun _ _ _ e => (by cases e), fun _ => trivial⟩
theorem ns_setMap (r : Nat) (c : Array MapEntry) (t : Nat) : NS l P (setObj r (.map c t)) := ⟨fun _ _ _ e => (by cases e), trivial⟩
theorem ns_newLoop (r : Loop) : NS l P (newObj (.loop r)) := ⟨fun _ _ _ e => (by cases e), fun _ => trivial⟩
theorem ns_newDef (r : Option (List Deferred)) : NS l P (newObj (.deferred r)) := ⟨fun _ _ _ e => (by cases e), fun _ => trivial⟩
theorem ns_setLoop (r : Nat) (o : Loop) : NS l P (setObj r (.loop o)) := ⟨fun _ _ _ e => (by cases e), trivial⟩
theorem ns_setDef (r : Nat) (o : Option (List Deferred)) : NS l P (setObj r (.deferred o)) := ⟨fun _ _ _ e => (by cases e), trivial⟩
theorem ns_mark (m : Mark) (h : calmM m = true) : NS l P (mark m) := ⟨h, trivial⟩
theorem ns_room (n : Nat) : NS l P (askRoom n) := by
  unfold askRoom
  split
  · exact ns_mark _ rfl
  · trivial
theorem ns_ite {α : Type} {c : Prop} [Decidable c] {x y : Sem α} (hx : NS l P x) (hy : NS l P y) : NS l P (if c then x else y) := by split <;> assumption
theorem ns_forIn' {β : Type} {α : Type} {f : α → β → Sem (ForInStep β)} (hf : ∀ a b, NS l P (f a b)) : ∀ {as : List α} {b : β}, NS l P (forIn as b f)
  | [], b => trivial
  | a :: as, b => by
    rw [List.forIn_cons]
    refine NS.bind (hf a b) fun r => ?_
    cases r with
    | done b => trivial
    | yield b => exact ns_forIn' hf
theorem ns_forIn {α β : Type} {f : α → β → Sem (ForInStep β)} (hf : ∀ a b, NS l P (f a b)) {as : Array α} {b : β} : NS l P (forIn as b f) := by
  rw [← Array.forIn_toList]; exact ns_forIn' hf
theorem ns_forR {β : Type} {f : Nat → β → Sem (ForInStep β)} (hf : ∀ a b, NS l P (f a b)) {r : Std.Legacy.Range} {b : β} : NS l P (forIn r b f) := by
  rw [Std.Legacy.Range.forIn_eq_forIn_range']; exact ns_forIn' hf
theorem ns_mapM' {α β : Type} {f : α → Sem β} (hf : ∀ a, NS l P (f a)) : ∀ {as : List α}, NS l P (as.mapM f)
  | [] => by rw [List.mapM_nil]; trivial
  | a :: as => by
    rw [List.mapM_cons]
    exact NS.bind (hf a) fun _ => NS.bind (ns_mapM' hf) fun _ => ns_pure _
theorem ns_map {α β : Type} {f : α → β} {s : Sem α} (hs : NS l P s) : NS l P (f <$> s) := NS.bind' (f := fun x => Sem.pure (f x)) (fun _ => trivial) hs
theorem ns_mapM {α β : Type} {f : α → Sem β} (hf : ∀ a, NS l P (f a)) {as : Array α} : NS l P (as.mapM f) := by
  rw [← Array.toArray_toList (xs := as), List.mapM_toArray]
  exact ns_map (ns_mapM' hf)
theorem ns_typeInfo (t : TypeId) : NS l P (typeInfo t) := by
  unfold typeInfo
  repeat' (first | with_reducible (first | assumption | exact ns_pure _ | exact ns_stuck _ | exact ns_uns _ | exact ns_goPanic _ | exact ns_program | exact ns_load _ _ | exact ns_store _ _ _ | exact ns_choose _ | exact ns_getObj _ | exact ns_cells _ _ | exact ns_mapO _ _ | exact ns_setMap _ _ _ | exact ns_room _ | exact ns_newLoop _ | exact ns_newDef _ | exact ns_setLoop _ _ | exact ns_setDef _ _ | refine NS.bind ?_ (fun _ => ?_) | refine ns_ite ?_ ?_) | split | dsimp only)
theorem ns_underlying (t : TypeId) : NS l P (underlying t) := by
  unfold underlying
  repeat' (first | with_reducible (first | assumption | exact ns_pure _ | exact ns_stuck _ | exact ns_uns _ | exact ns_goPanic _ | exact ns_program | exact ns_load _ _ | exact ns_store _ _ _ | exact ns_choose _ | exact ns_getObj _ | exact ns_cells _ _ | exact ns_mapO _ _ | exact ns_setMap _ _ _ | exact ns_room _ | exact ns_newLoop _ | exact ns_newDef _ | exact ns_setLoop _ _ | exact ns_setDef _ _ | exact ns_typeInfo _ | refine NS.bind ?_ (fun _ => ?_) | refine ns_ite ?_ ?_) | split | dsimp only)
theorem ns_zeroValue (t : TypeId) : NS l P (zeroValue t) := by
  unfold zeroValue
  repeat' (first | with_reducible (first | assumption | exact ns_pure _ | exact ns_stuck _ | exact ns_uns _ | exact ns_goPanic _ | exact ns_program | exact ns_load _ _ | exact ns_store _ _ _ | exact ns_choose _ | exact ns_getObj _ | exact ns_cells _ _ | exact ns_mapO _ _ | exact ns_setMap _ _ _ | exact ns_room _ | exact ns_newLoop _ | exact ns_newDef _ | exact ns_setLoop _ _ | exact ns_setDef _ _ | exact ns_typeInfo _ | exact ns_underlying _ | refine NS.bind ?_ (fun _ => ?_) | refine ns_ite ?_ ?_) | split | dsimp only)
theorem ns_sizeOf (t : TypeId) : NS l P (sizeOf t) := by
  unfold sizeOf
  repeat' (first | with_reducible (first | assumption | exact ns_pure _ | exact ns_stuck _ | exact ns_uns _ | exact ns_goPanic _ | exact ns_program | exact ns_load _ _ | exact ns_store _ _ _ | exact ns_choose _ | exact ns_getObj _ | exact ns_cells _ _ | exact ns_mapO _ _ | exact ns_setMap _ _ _ | exact ns_room _ | exact ns_newLoop _ | exact ns_newDef _ | exact ns_setLoop _ _ | exact ns_setDef _ _ | exact ns_typeInfo _ | exact ns_underlying _ | exact ns_zeroValue _ | refine NS.bind ?_ (fun _ => ?_) | refine ns_ite ?_ ?_) | split | dsimp only)
theorem ns_isAgg (t : TypeId) : NS l P (isAgg t) := by
  unfold isAgg
  repeat' (first | with_reducible (first | assumption | exact ns_pure _ | exact ns_stuck _ | exact ns_uns _ | exact ns_goPanic _ | exact ns_program | exact ns_load _ _ | exact ns_store _ _ _ | exact ns_choose _ | exact ns_getObj _ | exact ns_cells _ _ | exact ns_mapO _ _ | exact ns_setMap _ _ _ | exact ns_room _ | exact ns_newLoop _ | exact ns_newDef _ | exact ns_setLoop _ _ | exact ns_setDef _ _ | exact ns_typeInfo _ | exact ns_underlying _ | exact ns_zeroValue _ | exact ns_sizeOf _ | refine NS.bind ?_ (fun _ => ?_) | refine ns_ite ?_ ?_) | split | dsimp only)
theorem ns_loadCellsFrom (a : Addr) : ∀ (n i : Nat) (acc : Array Value), NS l P (loadCellsFrom a i n acc)
  | 0, _, _ => trivial
  | n + 1, _i, _acc => NS.bind (ns_load _ _) fun _ => ns_loadCellsFrom a n _ _
theorem ns_loadCells (a : Addr) (n : Nat) : NS l P (loadCells a n) := ns_loadCellsFrom a n _ _
theorem ns_storeCells (a : Addr) : ∀ (vs : List Value) (i : Nat), NS l P (storeCells a vs i)
  | [], _ => trivial
  | v :: vs, i => by
    unfold storeCells
    exact NS.bind (ns_store _ _ _) fun _ => ns_storeCells a vs _
theorem ns_loadVar (t : TypeId) (a : Addr) : NS l P (loadVar t a) := by
  unfold loadVar
  repeat' (first | with_reducible (first | assumption | exact ns_pure _ | exact ns_stuck _ | exact ns_uns _ | exact ns_goPanic _ | exact ns_program | exact ns_load _ _ | exact ns_store _ _ _ | exact ns_choose _ | exact ns_getObj _ | exact ns_cells _ _ | exact ns_mapO _ _ | exact ns_setMap _ _ _ | exact ns_room _ | exact ns_newLoop _ | exact ns_newDef _ | exact ns_setLoop _ _ | exact ns_setDef _ _ | exact ns_typeInfo _ | exact ns_underlying _ | exact ns_zeroValue _ | exact ns_sizeOf _ | exact ns_isAgg _ | exact ns_loadCells _ _ | exact ns_storeCells _ _ _ | refine NS.bind ?_ (fun _ => ?_) | refine ns_ite ?_ ?_) | split | dsimp only)
theorem ns_storeVar (t : TypeId) (a : Addr) (v : Value) : NS l P (storeVar t a v) := by
  unfold storeVar
  repeat' (first | with_reducible (first | assumption | exact ns_pure _ | exact ns_stuck _ | exact ns_uns _ | exact ns_goPanic _ | exact ns_program | exact ns_load _ _ | exact ns_store _ _ _ | exact ns_choose _ | exact ns_getObj _ | exact ns_cells _ _ | exact ns_mapO _ _ | exact ns_setMap _ _ _ | exact ns_room _ | exact ns_newLoop _ | exact ns_newDef _ | exact ns_setLoop _ _ | exact ns_setDef _ _ | exact ns_typeInfo _ | exact ns_underlying _ | exact ns_zeroValue _ | exact ns_sizeOf _ | exact ns_isAgg _ | exact ns_loadCells _ _ | exact ns_storeCells _ _ _ | exact ns_loadVar _ _ | refine NS.bind ?_ (fun _ => ?_) | refine ns_ite ?_ ?_) | split | dsimp only)
theorem ns_newRow (t : TypeId) (c : Array Value) : NS l P (newRow t c) := by
  unfold newRow
  repeat' (first | with_reducible (first | assumption | exact ns_pure _ | exact ns_stuck _ | exact ns_uns _ | exact ns_goPanic _ | exact ns_program | exact ns_load _ _ | exact ns_store _ _ _ | exact ns_choose _ | exact ns_getObj _ | exact ns_cells _ _ | exact ns_mapO _ _ | exact ns_setMap _ _ _ | exact ns_room _ | exact ns_newLoop _ | exact ns_newDef _ | exact ns_setLoop _ _ | exact ns_setDef _ _ | exact ns_typeInfo _ | exact ns_underlying _ | exact ns_zeroValue _ | exact ns_sizeOf _ | exact ns_isAgg _ | exact ns_loadCells _ _ | exact ns_storeCells _ _ _ | exact ns_loadVar _ _ | exact ns_storeVar _ _ _ | refine NS.bind ?_ (fun _ => ?_) | refine ns_ite ?_ ?_) | split | dsimp only)
theorem ns_newVar (t : TypeId) (v : Value) : NS l P (newVar t v) := by
  unfold newVar
  repeat' (first | with_reducible (first | assumption | exact ns_pure _ | exact ns_stuck _ | exact ns_uns _ | exact ns_goPanic _ | exact ns_program | exact ns_load _ _ | exact ns_store _ _ _ | exact ns_choose _ | exact ns_getObj _ | exact ns_cells _ _ | exact ns_mapO _ _ | exact ns_setMap _ _ _ | exact ns_room _ | exact ns_newLoop _ | exact ns_newDef _ | exact ns_setLoop _ _ | exact ns_setDef _ _ | exact ns_typeInfo _ | exact ns_underlying _ | exact ns_zeroValue _ | exact ns_sizeOf _ | exact ns_isAgg _ | exact ns_loadCells _ _ | exact ns_storeCells _ _ _ | exact ns_loadVar _ _ | exact ns_storeVar _ _ _ | exact ns_newRow _ _ | refine NS.bind ?_ (fun _ => ?_) | refine ns_ite ?_ ?_) | split | dsimp only)
theorem ns_elemOf (t : TypeId) : NS l P (elemOf t) := by
  unfold elemOf
  repeat' (first | with_reducible (first | assumption | exact ns_pure _ | exact ns_stuck _ | exact ns_uns _ | exact ns_goPanic _ | exact ns_program | exact ns_load _ _ | exact ns_store _ _ _ | exact ns_choose _ | exact ns_getObj _ | exact ns_cells _ _ | exact ns_mapO _ _ | exact ns_setMap _ _ _ | exact ns_room _ | exact ns_newLoop _ | exact ns_newDef _ | exact ns_setLoop _ _ | exact ns_setDef _ _ | exact ns_typeInfo _ | exact ns_underlying _ | exact ns_zeroValue _ | exact ns_sizeOf _ | exact ns_isAgg _ | exact ns_loadCells _ _ | exact ns_storeCells _ _ _ | exact ns_loadVar _ _ | exact ns_storeVar _ _ _ | exact ns_newRow _ _ | exact ns_newVar _ _ | refine NS.bind ?_ (fun _ => ?_) | refine ns_ite ?_ ?_) | split | dsimp only)
theorem ns_part (t : TypeId) (c : Array Value) (o : Nat) : NS l P (part t c o) := by
  unfold part
  repeat' (first | with_reducible (first | assumption | exact ns_pure _ | exact ns_stuck _ | exact ns_uns _ | exact ns_goPanic _ | exact ns_program | exact ns_load _ _ | exact ns_store _ _ _ | exact ns_choose _ | exact ns_getObj _ | exact ns_cells _ _ | exact ns_mapO _ _ | exact ns_setMap _ _ _ | exact ns_room _ | exact ns_newLoop _ | exact ns_newDef _ | exact ns_setLoop _ _ | exact ns_setDef _ _ | exact ns_typeInfo _ | exact ns_underlying _ | exact ns_zeroValue _ | exact ns_sizeOf _ | exact ns_isAgg _ | exact ns_loadCells _ _ | exact ns_storeCells _ _ _ | exact ns_loadVar _ _ | exact ns_storeVar _ _ _ | exact ns_newRow _ _ | exact ns_newVar _ _ | exact ns_elemOf _ | refine NS.bind ?_ (fun _ => ?_) | refine ns_ite ?_ ?_) | split | dsimp only)
theorem ns_runtimePanic {α : Type} (e : RuntimeError) : NS l P (runtimePanic e : Sem α) := by
  unfold runtimePanic
  repeat' (first | with_reducible (first | assumption | exact ns_pure _ | exact ns_stuck _ | exact ns_uns _ | exact ns_goPanic _ | exact ns_program | exact ns_load _ _ | exact ns_store _ _ _ | exact ns_choose _ | exact ns_getObj _ | exact ns_cells _ _ | exact ns_mapO _ _ | exact ns_setMap _ _ _ | exact ns_room _ | exact ns_newLoop _ | exact ns_newDef _ | exact ns_setLoop _ _ | exact ns_setDef _ _ | exact ns_typeInfo _ | exact ns_underlying _ | exact ns_zeroValue _ | exact ns_sizeOf _ | exact ns_isAgg _ | exact ns_loadCells _ _ | exact ns_storeCells _ _ _ | exact ns_loadVar _ _ | exact ns_storeVar _ _ _ | exact ns_newRow _ _ | exact ns_newVar _ _ | exact ns_elemOf _ | exact ns_part _ _ _ | refine NS.bind ?_ (fun _ => ?_) | refine ns_ite ?_ ?_) | split | dsimp only)
theorem ns_boundsPanic {α : Type} (k : IntKind) (x y : Int) (c : BoundsCode) : NS l P (boundsPanic k x y c : Sem α) := by
  unfold boundsPanic
  repeat' (first | with_reducible (first | assumption | exact ns_pure _ | exact ns_map (ns_choose _) | exact ns_stuck _ | exact ns_uns _ | exact ns_goPanic _ | exact ns_program | exact ns_load _ _ | exact ns_store _ _ _ | exact ns_choose _ | exact ns_getObj _ | exact ns_cells _ _ | exact ns_mapO _ _ | exact ns_setMap _ _ _ | exact ns_room _ | exact ns_newLoop _ | exact ns_newDef _ | exact ns_setLoop _ _ | exact ns_setDef _ _ | exact ns_typeInfo _ | exact ns_underlying _ | exact ns_zeroValue _ | exact ns_sizeOf _ | exact ns_isAgg _ | exact ns_loadCells _ _ | exact ns_storeCells _ _ _ | exact ns_loadVar _ _ | exact ns_storeVar _ _ _ | exact ns_newRow _ _ | exact ns_newVar _ _ | exact ns_elemOf _ | exact ns_part _ _ _ | exact ns_runtimePanic _ | refine NS.bind ?_ (fun _ => ?_) | refine ns_ite ?_ ?_) | split | dsimp only)
theorem ns_asIntOf (v : Value) : NS l P (asIntOf v) := by
  unfold asIntOf
  repeat' (first | with_reducible (first | assumption | exact ns_pure _ | exact ns_map (ns_choose _) | exact ns_stuck _ | exact ns_uns _ | exact ns_goPanic _ | exact ns_program | exact ns_load _ _ | exact ns_store _ _ _ | exact ns_choose _ | exact ns_getObj _ | exact ns_cells _ _ | exact ns_mapO _ _ | exact ns_setMap _ _ _ | exact ns_room _ | exact ns_newLoop _ | exact ns_newDef _ | exact ns_setLoop _ _ | exact ns_setDef _ _ | exact ns_typeInfo _ | exact ns_underlying _ | exact ns_zeroValue _ | exact ns_sizeOf _ | exact ns_isAgg _ | exact ns_loadCells _ _ | exact ns_storeCells _ _ _ | exact ns_loadVar _ _ | exact ns_storeVar _ _ _ | exact ns_newRow _ _ | exact ns_newVar _ _ | exact ns_elemOf _ | exact ns_part _ _ _ | exact ns_runtimePanic _ | exact ns_boundsPanic _ _ _ _ | refine NS.bind ?_ (fun _ => ?_) | refine ns_ite ?_ ?_) | split | dsimp only)
theorem ns_asInt (v : Value) : NS l P (asInt v) := by
  unfold asInt
  repeat' (first | with_reducible (first | assumption | exact ns_pure _ | exact ns_map (ns_choose _) | exact ns_stuck _ | exact ns_uns _ | exact ns_goPanic _ | exact ns_program | exact ns_load _ _ | exact ns_store _ _ _ | exact ns_choose _ | exact ns_getObj _ | exact ns_cells _ _ | exact ns_mapO _ _ | exact ns_setMap _ _ _ | exact ns_room _ | exact ns_newLoop _ | exact ns_newDef _ | exact ns_setLoop _ _ | exact ns_setDef _ _ | exact ns_typeInfo _ | exact ns_underlying _ | exact ns_zeroValue _ | exact ns_sizeOf _ | exact ns_isAgg _ | exact ns_loadCells _ _ | exact ns_storeCells _ _ _ | exact ns_loadVar _ _ | exact ns_storeVar _ _ _ | exact ns_newRow _ _ | exact ns_newVar _ _ | exact ns_elemOf _ | exact ns_part _ _ _ | exact ns_runtimePanic _ | exact ns_boundsPanic _ _ _ _ | exact ns_asIntOf _ | refine NS.bind ?_ (fun _ => ?_) | refine ns_ite ?_ ?_) | split | dsimp only)
theorem ns_asBool (v : Value) : NS l P (asBool v) := by
  unfold asBool
  repeat' (first | with_reducible (first | assumption | exact ns_pure _ | exact ns_map (ns_choose _) | exact ns_stuck _ | exact ns_uns _ | exact ns_goPanic _ | exact ns_program | exact ns_load _ _ | exact ns_store _ _ _ | exact ns_choose _ | exact ns_getObj _ | exact ns_cells _ _ | exact ns_mapO _ _ | exact ns_setMap _ _ _ | exact ns_room _ | exact ns_newLoop _ | exact ns_newDef _ | exact ns_setLoop _ _ | exact ns_setDef _ _ | exact ns_typeInfo _ | exact ns_underlying _ | exact ns_zeroValue _ | exact ns_sizeOf _ | exact ns_isAgg _ | exact ns_loadCells _ _ | exact ns_storeCells _ _ _ | exact ns_loadVar _ _ | exact ns_storeVar _ _ _ | exact ns_newRow _ _ | exact ns_newVar _ _ | exact ns_elemOf _ | exact ns_part _ _ _ | exact ns_runtimePanic _ | exact ns_boundsPanic _ _ _ _ | exact ns_asIntOf _ | exact ns_asInt _ | refine NS.bind ?_ (fun _ => ?_) | refine ns_ite ?_ ?_) | split | dsimp only)
theorem ns_asAgg (v : Value) : NS l P (asAgg v) := by
  unfold asAgg
  repeat' (first | with_reducible (first | assumption | exact ns_pure _ | exact ns_map (ns_choose _) | exact ns_stuck _ | exact ns_uns _ | exact ns_goPanic _ | exact ns_program | exact ns_load _ _ | exact ns_store _ _ _ | exact ns_choose _ | exact ns_getObj _ | exact ns_cells _ _ | exact ns_mapO _ _ | exact ns_setMap _ _ _ | exact ns_room _ | exact ns_newLoop _ | exact ns_newDef _ | exact ns_setLoop _ _ | exact ns_setDef _ _ | exact ns_typeInfo _ | exact ns_underlying _ | exact ns_zeroValue _ | exact ns_sizeOf _ | exact ns_isAgg _ | exact ns_loadCells _ _ | exact ns_storeCells _ _ _ | exact ns_loadVar _ _ | exact ns_storeVar _ _ _ | exact ns_newRow _ _ | exact ns_newVar _ _ | exact ns_elemOf _ | exact ns_part _ _ _ | exact ns_runtimePanic _ | exact ns_boundsPanic _ _ _ _ | exact ns_asIntOf _ | exact ns_asInt _ | exact ns_asBool _ | refine NS.bind ?_ (fun _ => ?_) | refine ns_ite ?_ ?_) | split | dsimp only)
theorem ns_asAddr (v : Value) : NS l P (asAddr v) := by
  unfold asAddr
  repeat' (first | with_reducible (first | assumption | exact ns_pure _ | exact ns_map (ns_choose _) | exact ns_stuck _ | exact ns_uns _ | exact ns_goPanic _ | exact ns_program | exact ns_load _ _ | exact ns_store _ _ _ | exact ns_choose _ | exact ns_getObj _ | exact ns_cells _ _ | exact ns_mapO _ _ | exact ns_setMap _ _ _ | exact ns_room _ | exact ns_newLoop _ | exact ns_newDef _ | exact ns_setLoop _ _ | exact ns_setDef _ _ | exact ns_typeInfo _ | exact ns_underlying _ | exact ns_zeroValue _ | exact ns_sizeOf _ | exact ns_isAgg _ | exact ns_loadCells _ _ | exact ns_storeCells _ _ _ | exact ns_loadVar _ _ | exact ns_storeVar _ _ _ | exact ns_newRow _ _ | exact ns_newVar _ _ | exact ns_elemOf _ | exact ns_part _ _ _ | exact ns_runtimePanic _ | exact ns_boundsPanic _ _ _ _ | exact ns_asIntOf _ | exact ns_asInt _ | exact ns_asBool _ | exact ns_asAgg _ | refine NS.bind ?_ (fun _ => ?_) | refine ns_ite ?_ ?_) | split | dsimp only)
theorem ns_sureAddr (v : Value) : NS l P (Instr.sureAddr v) := by
  unfold Instr.sureAddr
  repeat' (first | with_reducible (first | assumption | exact ns_pure _ | exact ns_map (ns_choose _) | exact ns_stuck _ | exact ns_uns _ | exact ns_goPanic _ | exact ns_program | exact ns_load _ _ | exact ns_store _ _ _ | exact ns_choose _ | exact ns_getObj _ | exact ns_cells _ _ | exact ns_mapO _ _ | exact ns_setMap _ _ _ | exact ns_room _ | exact ns_newLoop _ | exact ns_newDef _ | exact ns_setLoop _ _ | exact ns_setDef _ _ | exact ns_typeInfo _ | exact ns_underlying _ | exact ns_zeroValue _ | exact ns_sizeOf _ | exact ns_isAgg _ | exact ns_loadCells _ _ | exact ns_storeCells _ _ _ | exact ns_loadVar _ _ | exact ns_storeVar _ _ _ | exact ns_newRow _ _ | exact ns_newVar _ _ | exact ns_elemOf _ | exact ns_part _ _ _ | exact ns_runtimePanic _ | exact ns_boundsPanic _ _ _ _ | exact ns_asIntOf _ | exact ns_asInt _ | exact ns_asBool _ | exact ns_asAgg _ | exact ns_asAddr _ | refine NS.bind ?_ (fun _ => ?_) | refine ns_ite ?_ ?_) | split | dsimp only)
theorem ns_loadAt (t : TypeId) (v : Value) : NS l P (Instr.loadAt t v) := by
  unfold Instr.loadAt
  repeat' (first | with_reducible (first | assumption | exact ns_pure _ | exact ns_map (ns_choose _) | exact ns_stuck _ | exact ns_uns _ | exact ns_goPanic _ | exact ns_program | exact ns_load _ _ | exact ns_store _ _ _ | exact ns_choose _ | exact ns_getObj _ | exact ns_cells _ _ | exact ns_mapO _ _ | exact ns_setMap _ _ _ | exact ns_room _ | exact ns_newLoop _ | exact ns_newDef _ | exact ns_setLoop _ _ | exact ns_setDef _ _ | exact ns_typeInfo _ | exact ns_underlying _ | exact ns_zeroValue _ | exact ns_sizeOf _ | exact ns_isAgg _ | exact ns_loadCells _ _ | exact ns_storeCells _ _ _ | exact ns_loadVar _ _ | exact ns_storeVar _ _ _ | exact ns_newRow _ _ | exact ns_newVar _ _ | exact ns_elemOf _ | exact ns_part _ _ _ | exact ns_runtimePanic _ | exact ns_boundsPanic _ _ _ _ | exact ns_asIntOf _ | exact ns_asInt _ | exact ns_asBool _ | exact ns_asAgg _ | exact ns_asAddr _ | exact ns_sureAddr _ | refine NS.bind ?_ (fun _ => ?_) | refine ns_ite ?_ ?_) | split | dsimp only)
theorem ns_storeAt (t : TypeId) (a v : Value) : NS l P (Instr.storeAt t a v) := by
  unfold Instr.storeAt
  repeat' (first | with_reducible (first | assumption | exact ns_pure _ | exact ns_map (ns_choose _) | exact ns_stuck _ | exact ns_uns _ | exact ns_goPanic _ | exact ns_program | exact ns_load _ _ | exact ns_store _ _ _ | exact ns_choose _ | exact ns_getObj _ | exact ns_cells _ _ | exact ns_mapO _ _ | exact ns_setMap _ _ _ | exact ns_room _ | exact ns_newLoop _ | exact ns_newDef _ | exact ns_setLoop _ _ | exact ns_setDef _ _ | exact ns_typeInfo _ | exact ns_underlying _ | exact ns_zeroValue _ | exact ns_sizeOf _ | exact ns_isAgg _ | exact ns_loadCells _ _ | exact ns_storeCells _ _ _ | exact ns_loadVar _ _ | exact ns_storeVar _ _ _ | exact ns_newRow _ _ | exact ns_newVar _ _ | exact ns_elemOf _ | exact ns_part _ _ _ | exact ns_runtimePanic _ | exact ns_boundsPanic _ _ _ _ | exact ns_asIntOf _ | exact ns_asInt _ | exact ns_asBool _ | exact ns_asAgg _ | exact ns_asAddr _ | exact ns_sureAddr _ | exact ns_loadAt _ _ | refine NS.bind ?_ (fun _ => ?_) | refine ns_ite ?_ ?_) | split | dsimp only)
theorem ns_indexAt (t : TypeId) (a v : Value) : NS l P (Instr.indexAt t a v) := by
  unfold Instr.indexAt
  repeat' (first | with_reducible (first | assumption | exact ns_pure _ | exact ns_map (ns_choose _) | exact ns_stuck _ | exact ns_uns _ | exact ns_goPanic _ | exact ns_program | exact ns_load _ _ | exact ns_store _ _ _ | exact ns_choose _ | exact ns_getObj _ | exact ns_cells _ _ | exact ns_mapO _ _ | exact ns_setMap _ _ _ | exact ns_room _ | exact ns_newLoop _ | exact ns_newDef _ | exact ns_setLoop _ _ | exact ns_setDef _ _ | exact ns_typeInfo _ | exact ns_underlying _ | exact ns_zeroValue _ | exact ns_sizeOf _ | exact ns_isAgg _ | exact ns_loadCells _ _ | exact ns_storeCells _ _ _ | exact ns_loadVar _ _ | exact ns_storeVar _ _ _ | exact ns_newRow _ _ | exact ns_newVar _ _ | exact ns_elemOf _ | exact ns_part _ _ _ | exact ns_runtimePanic _ | exact ns_boundsPanic _ _ _ _ | exact ns_asIntOf _ | exact ns_asInt _ | exact ns_asBool _ | exact ns_asAgg _ | exact ns_asAddr _ | exact ns_sureAddr _ | exact ns_loadAt _ _ | exact ns_storeAt _ _ _ | refine NS.bind ?_ (fun _ => ?_) | refine ns_ite ?_ ?_) | split | dsimp only)
theorem ns_sliceBound (x : Value) (y : Nat) (c : BoundsCode) : NS l P (Instr.sliceBound x y c) := by
  unfold Instr.sliceBound
  repeat' (first | with_reducible (first | assumption | exact ns_pure _ | exact ns_map (ns_choose _) | exact ns_stuck _ | exact ns_uns _ | exact ns_goPanic _ | exact ns_program | exact ns_load _ _ | exact ns_store _ _ _ | exact ns_choose _ | exact ns_getObj _ | exact ns_cells _ _ | exact ns_mapO _ _ | exact ns_setMap _ _ _ | exact ns_room _ | exact ns_newLoop _ | exact ns_newDef _ | exact ns_setLoop _ _ | exact ns_setDef _ _ | exact ns_typeInfo _ | exact ns_underlying _ | exact ns_zeroValue _ | exact ns_sizeOf _ | exact ns_isAgg _ | exact ns_loadCells _ _ | exact ns_storeCells _ _ _ | exact ns_loadVar _ _ | exact ns_storeVar _ _ _ | exact ns_newRow _ _ | exact ns_newVar _ _ | exact ns_elemOf _ | exact ns_part _ _ _ | exact ns_runtimePanic _ | exact ns_boundsPanic _ _ _ _ | exact ns_asIntOf _ | exact ns_asInt _ | exact ns_asBool _ | exact ns_asAgg _ | exact ns_asAddr _ | exact ns_sureAddr _ | exact ns_loadAt _ _ | exact ns_storeAt _ _ _ | exact ns_indexAt _ _ _ | refine NS.bind ?_ (fun _ => ?_) | refine ns_ite ?_ ?_) | split | dsimp only)
theorem ns_sliceBounds (b : Bool) (n m : Nat) (x y z : Option Value) : NS l P (Instr.sliceBounds b n m x y z) := by
  unfold Instr.sliceBounds
  repeat' (first | with_reducible (first | assumption | exact ns_pure _ | exact ns_map (ns_choose _) | exact ns_stuck _ | exact ns_uns _ | exact ns_goPanic _ | exact ns_program | exact ns_load _ _ | exact ns_store _ _ _ | exact ns_choose _ | exact ns_getObj _ | exact ns_cells _ _ | exact ns_mapO _ _ | exact ns_setMap _ _ _ | exact ns_room _ | exact ns_newLoop _ | exact ns_newDef _ | exact ns_setLoop _ _ | exact ns_setDef _ _ | exact ns_typeInfo _ | exact ns_underlying _ | exact ns_zeroValue _ | exact ns_sizeOf _ | exact ns_isAgg _ | exact ns_loadCells _ _ | exact ns_storeCells _ _ _ | exact ns_loadVar _ _ | exact ns_storeVar _ _ _ | exact ns_newRow _ _ | exact ns_newVar _ _ | exact ns_elemOf _ | exact ns_part _ _ _ | exact ns_runtimePanic _ | exact ns_boundsPanic _ _ _ _ | exact ns_asIntOf _ | exact ns_asInt _ | exact ns_asBool _ | exact ns_asAgg _ | exact ns_asAddr _ | exact ns_sureAddr _ | exact ns_loadAt _ _ | exact ns_storeAt _ _ _ | exact ns_indexAt _ _ _ | exact ns_sliceBound _ _ _ | refine NS.bind ?_ (fun _ => ?_) | refine ns_ite ?_ ?_) | split | dsimp only)
theorem ns_slice (t : TypeId) (a : Value) (x y z : Option Value) : NS l P (Instr.slice t a x y z) := by
  unfold Instr.slice
  repeat' (first | with_reducible (first | assumption | exact ns_pure _ | exact ns_map (ns_choose _) | exact ns_stuck _ | exact ns_uns _ | exact ns_goPanic _ | exact ns_program | exact ns_load _ _ | exact ns_store _ _ _ | exact ns_choose _ | exact ns_getObj _ | exact ns_cells _ _ | exact ns_mapO _ _ | exact ns_setMap _ _ _ | exact ns_room _ | exact ns_newLoop _ | exact ns_newDef _ | exact ns_setLoop _ _ | exact ns_setDef _ _ | exact ns_typeInfo _ | exact ns_underlying _ | exact ns_zeroValue _ | exact ns_sizeOf _ | exact ns_isAgg _ | exact ns_loadCells _ _ | exact ns_storeCells _ _ _ | exact ns_loadVar _ _ | exact ns_storeVar _ _ _ | exact ns_newRow _ _ | exact ns_newVar _ _ | exact ns_elemOf _ | exact ns_part _ _ _ | exact ns_runtimePanic _ | exact ns_boundsPanic _ _ _ _ | exact ns_asIntOf _ | exact ns_asInt _ | exact ns_asBool _ | exact ns_asAgg _ | exact ns_asAddr _ | exact ns_sureAddr _ | exact ns_loadAt _ _ | exact ns_storeAt _ _ _ | exact ns_indexAt _ _ _ | exact ns_sliceBound _ _ _ | exact ns_sliceBounds _ _ _ _ _ _ | refine NS.bind ?_ (fun _ => ?_) | refine ns_ite ?_ ?_) | split | dsimp only)
theorem ns_sliceAt (t : TypeId) (a : Value) (x y z : Option Value) : NS l P (Instr.sliceAt t a x y z) := by
  unfold Instr.sliceAt
  repeat' (first | with_reducible (first | assumption | exact ns_pure _ | exact ns_map (ns_choose _) | exact ns_stuck _ | exact ns_uns _ | exact ns_goPanic _ | exact ns_program | exact ns_load _ _ | exact ns_store _ _ _ | exact ns_choose _ | exact ns_getObj _ | exact ns_cells _ _ | exact ns_mapO _ _ | exact ns_setMap _ _ _ | exact ns_room _ | exact ns_newLoop _ | exact ns_newDef _ | exact ns_setLoop _ _ | exact ns_setDef _ _ | exact ns_typeInfo _ | exact ns_underlying _ | exact ns_zeroValue _ | exact ns_sizeOf _ | exact ns_isAgg _ | exact ns_loadCells _ _ | exact ns_storeCells _ _ _ | exact ns_loadVar _ _ | exact ns_storeVar _ _ _ | exact ns_newRow _ _ | exact ns_newVar _ _ | exact ns_elemOf _ | exact ns_part _ _ _ | exact ns_runtimePanic _ | exact ns_boundsPanic _ _ _ _ | exact ns_asIntOf _ | exact ns_asInt _ | exact ns_asBool _ | exact ns_asAgg _ | exact ns_asAddr _ | exact ns_sureAddr _ | exact ns_loadAt _ _ | exact ns_storeAt _ _ _ | exact ns_indexAt _ _ _ | exact ns_sliceBound _ _ _ | exact ns_sliceBounds _ _ _ _ _ _ | exact ns_slice _ _ _ _ _ | refine NS.bind ?_ (fun _ => ?_) | refine ns_ite ?_ ?_) | split | dsimp only)
theorem ns_arrayAt (t : TypeId) (a : Value) : NS l P (Instr.arrayAt t a) := by
  unfold Instr.arrayAt
  repeat' (first | with_reducible (first | assumption | exact ns_pure _ | exact ns_map (ns_choose _) | exact ns_stuck _ | exact ns_uns _ | exact ns_goPanic _ | exact ns_program | exact ns_load _ _ | exact ns_store _ _ _ | exact ns_choose _ | exact ns_getObj _ | exact ns_cells _ _ | exact ns_mapO _ _ | exact ns_setMap _ _ _ | exact ns_room _ | exact ns_newLoop _ | exact ns_newDef _ | exact ns_setLoop _ _ | exact ns_setDef _ _ | exact ns_typeInfo _ | exact ns_underlying _ | exact ns_zeroValue _ | exact ns_sizeOf _ | exact ns_isAgg _ | exact ns_loadCells _ _ | exact ns_storeCells _ _ _ | exact ns_loadVar _ _ | exact ns_storeVar _ _ _ | exact ns_newRow _ _ | exact ns_newVar _ _ | exact ns_elemOf _ | exact ns_part _ _ _ | exact ns_runtimePanic _ | exact ns_boundsPanic _ _ _ _ | exact ns_asIntOf _ | exact ns_asInt _ | exact ns_asBool _ | exact ns_asAgg _ | exact ns_asAddr _ | exact ns_sureAddr _ | exact ns_loadAt _ _ | exact ns_storeAt _ _ _ | exact ns_indexAt _ _ _ | exact ns_sliceBound _ _ _ | exact ns_sliceBounds _ _ _ _ _ _ | exact ns_slice _ _ _ _ _ | exact ns_sliceAt _ _ _ _ _ | refine NS.bind ?_ (fun _ => ?_) | refine ns_ite ?_ ?_) | split | dsimp only)
theorem ns_alloc (t : TypeId) (h : Bool) (v : Value) : NS l P (Instr.alloc t h v) := by
  unfold Instr.alloc
  repeat' (first | with_reducible (first | assumption | exact ns_pure _ | exact ns_map (ns_choose _) | exact ns_stuck _ | exact ns_uns _ | exact ns_goPanic _ | exact ns_program | exact ns_load _ _ | exact ns_store _ _ _ | exact ns_choose _ | exact ns_getObj _ | exact ns_cells _ _ | exact ns_mapO _ _ | exact ns_setMap _ _ _ | exact ns_room _ | exact ns_newLoop _ | exact ns_newDef _ | exact ns_setLoop _ _ | exact ns_setDef _ _ | exact ns_typeInfo _ | exact ns_underlying _ | exact ns_zeroValue _ | exact ns_sizeOf _ | exact ns_isAgg _ | exact ns_loadCells _ _ | exact ns_storeCells _ _ _ | exact ns_loadVar _ _ | exact ns_storeVar _ _ _ | exact ns_newRow _ _ | exact ns_newVar _ _ | exact ns_elemOf _ | exact ns_part _ _ _ | exact ns_runtimePanic _ | exact ns_boundsPanic _ _ _ _ | exact ns_asIntOf _ | exact ns_asInt _ | exact ns_asBool _ | exact ns_asAgg _ | exact ns_asAddr _ | exact ns_sureAddr _ | exact ns_loadAt _ _ | exact ns_storeAt _ _ _ | exact ns_indexAt _ _ _ | exact ns_sliceBound _ _ _ | exact ns_sliceBounds _ _ _ _ _ _ | exact ns_slice _ _ _ _ _ | exact ns_sliceAt _ _ _ _ _ | exact ns_arrayAt _ _ | refine NS.bind ?_ (fun _ => ?_) | refine ns_ite ?_ ?_) | split | dsimp only)
theorem ns_box (t : TypeId) (v : Value) : NS l P (Instr.box t v) := by
  unfold Instr.box
  repeat' (first | with_reducible (first | assumption | exact ns_pure _ | exact ns_map (ns_choose _) | exact ns_stuck _ | exact ns_uns _ | exact ns_goPanic _ | exact ns_program | exact ns_load _ _ | exact ns_store _ _ _ | exact ns_choose _ | exact ns_getObj _ | exact ns_cells _ _ | exact ns_mapO _ _ | exact ns_setMap _ _ _ | exact ns_room _ | exact ns_newLoop _ | exact ns_newDef _ | exact ns_setLoop _ _ | exact ns_setDef _ _ | exact ns_typeInfo _ | exact ns_underlying _ | exact ns_zeroValue _ | exact ns_sizeOf _ | exact ns_isAgg _ | exact ns_loadCells _ _ | exact ns_storeCells _ _ _ | exact ns_loadVar _ _ | exact ns_storeVar _ _ _ | exact ns_newRow _ _ | exact ns_newVar _ _ | exact ns_elemOf _ | exact ns_part _ _ _ | exact ns_runtimePanic _ | exact ns_boundsPanic _ _ _ _ | exact ns_asIntOf _ | exact ns_asInt _ | exact ns_asBool _ | exact ns_asAgg _ | exact ns_asAddr _ | exact ns_sureAddr _ | exact ns_loadAt _ _ | exact ns_storeAt _ _ _ | exact ns_indexAt _ _ _ | exact ns_sliceBound _ _ _ | exact ns_sliceBounds _ _ _ _ _ _ | exact ns_slice _ _ _ _ _ | exact ns_sliceAt _ _ _ _ _ | exact ns_arrayAt _ _ | exact ns_alloc _ _ _ | refine NS.bind ?_ (fun _ => ?_) | refine ns_ite ?_ ?_) | split | dsimp only)
theorem ns_build (t : TypeId) (v : Array (Nat × Value)) : NS l P (Instr.build t v) := by
  unfold Instr.build
  repeat' (first | with_reducible assumption | (with_reducible refine NS.bind (ns_mapM fun _ => ?_) (fun _ => ?_)) | with_reducible (first | exact ns_pure _ | exact ns_map (ns_choose _) | exact ns_stuck _ | exact ns_uns _ | exact ns_goPanic _ | exact ns_program | exact ns_load _ _ | exact ns_store _ _ _ | exact ns_choose _ | exact ns_getObj _ | exact ns_cells _ _ | exact ns_mapO _ _ | exact ns_setMap _ _ _ | exact ns_room _ | exact ns_newLoop _ | exact ns_newDef _ | exact ns_setLoop _ _ | exact ns_setDef _ _ | exact ns_typeInfo _ | exact ns_underlying _ | exact ns_zeroValue _ | exact ns_sizeOf _ | exact ns_isAgg _ | exact ns_loadCells _ _ | exact ns_storeCells _ _ _ | exact ns_loadVar _ _ | exact ns_storeVar _ _ _ | exact ns_newRow _ _ | exact ns_newVar _ _ | exact ns_elemOf _ | exact ns_part _ _ _ | exact ns_runtimePanic _ | exact ns_boundsPanic _ _ _ _ | exact ns_asIntOf _ | exact ns_asInt _ | exact ns_asBool _ | exact ns_asAgg _ | exact ns_asAddr _ | exact ns_sureAddr _ | exact ns_loadAt _ _ | exact ns_storeAt _ _ _ | exact ns_indexAt _ _ _ | exact ns_sliceBound _ _ _ | exact ns_sliceBounds _ _ _ _ _ _ | exact ns_slice _ _ _ _ _ | exact ns_sliceAt _ _ _ _ _ | exact ns_arrayAt _ _ | exact ns_alloc _ _ _ | exact ns_box _ _ | refine NS.bind ?_ (fun _ => ?_) | refine ns_ite ?_ ?_) | split | dsimp only)
theorem ns_buildSlice (t : TypeId) (n : Nat) (v : Array (Nat × Value)) : NS l P (Instr.buildSlice t n v) := by
  unfold Instr.buildSlice
  repeat' (first | with_reducible (first | assumption | exact ns_pure _ | exact ns_map (ns_choose _) | exact ns_stuck _ | exact ns_uns _ | exact ns_goPanic _ | exact ns_program | exact ns_load _ _ | exact ns_store _ _ _ | exact ns_choose _ | exact ns_getObj _ | exact ns_cells _ _ | exact ns_mapO _ _ | exact ns_setMap _ _ _ | exact ns_room _ | exact ns_newLoop _ | exact ns_newDef _ | exact ns_setLoop _ _ | exact ns_setDef _ _ | exact ns_typeInfo _ | exact ns_underlying _ | exact ns_zeroValue _ | exact ns_sizeOf _ | exact ns_isAgg _ | exact ns_loadCells _ _ | exact ns_storeCells _ _ _ | exact ns_loadVar _ _ | exact ns_storeVar _ _ _ | exact ns_newRow _ _ | exact ns_newVar _ _ | exact ns_elemOf _ | exact ns_part _ _ _ | exact ns_runtimePanic _ | exact ns_boundsPanic _ _ _ _ | exact ns_asIntOf _ | exact ns_asInt _ | exact ns_asBool _ | exact ns_asAgg _ | exact ns_asAddr _ | exact ns_sureAddr _ | exact ns_loadAt _ _ | exact ns_storeAt _ _ _ | exact ns_indexAt _ _ _ | exact ns_sliceBound _ _ _ | exact ns_sliceBounds _ _ _ _ _ _ | exact ns_slice _ _ _ _ _ | exact ns_sliceAt _ _ _ _ _ | exact ns_arrayAt _ _ | exact ns_alloc _ _ _ | exact ns_box _ _ | exact ns_build _ _ | refine NS.bind ?_ (fun _ => ?_) | refine ns_ite ?_ ?_) | split | dsimp only)
theorem ns_extract (v : Value) (i : Nat) : NS l P (Instr.extract v i) := by
  unfold Instr.extract
  repeat' (first | with_reducible (first | assumption | exact ns_pure _ | exact ns_map (ns_choose _) | exact ns_stuck _ | exact ns_uns _ | exact ns_goPanic _ | exact ns_program | exact ns_load _ _ | exact ns_store _ _ _ | exact ns_choose _ | exact ns_getObj _ | exact ns_cells _ _ | exact ns_mapO _ _ | exact ns_setMap _ _ _ | exact ns_room _ | exact ns_newLoop _ | exact ns_newDef _ | exact ns_setLoop _ _ | exact ns_setDef _ _ | exact ns_typeInfo _ | exact ns_underlying _ | exact ns_zeroValue _ | exact ns_sizeOf _ | exact ns_isAgg _ | exact ns_loadCells _ _ | exact ns_storeCells _ _ _ | exact ns_loadVar _ _ | exact ns_storeVar _ _ _ | exact ns_newRow _ _ | exact ns_newVar _ _ | exact ns_elemOf _ | exact ns_part _ _ _ | exact ns_runtimePanic _ | exact ns_boundsPanic _ _ _ _ | exact ns_asIntOf _ | exact ns_asInt _ | exact ns_asBool _ | exact ns_asAgg _ | exact ns_asAddr _ | exact ns_sureAddr _ | exact ns_loadAt _ _ | exact ns_storeAt _ _ _ | exact ns_indexAt _ _ _ | exact ns_sliceBound _ _ _ | exact ns_sliceBounds _ _ _ _ _ _ | exact ns_slice _ _ _ _ _ | exact ns_sliceAt _ _ _ _ _ | exact ns_arrayAt _ _ | exact ns_alloc _ _ _ | exact ns_box _ _ | exact ns_build _ _ | exact ns_buildSlice _ _ _ | refine NS.bind ?_ (fun _ => ?_) | refine ns_ite ?_ ?_) | split | dsimp only)
theorem ns_field (t : TypeId) (v : Value) (i : Nat) : NS l P (Instr.field t v i) := by
  unfold Instr.field
  repeat' (first | with_reducible (first | assumption | exact ns_pure _ | exact ns_map (ns_choose _) | exact ns_stuck _ | exact ns_uns _ | exact ns_goPanic _ | exact ns_program | exact ns_load _ _ | exact ns_store _ _ _ | exact ns_choose _ | exact ns_getObj _ | exact ns_cells _ _ | exact ns_mapO _ _ | exact ns_setMap _ _ _ | exact ns_room _ | exact ns_newLoop _ | exact ns_newDef _ | exact ns_setLoop _ _ | exact ns_setDef _ _ | exact ns_typeInfo _ | exact ns_underlying _ | exact ns_zeroValue _ | exact ns_sizeOf _ | exact ns_isAgg _ | exact ns_loadCells _ _ | exact ns_storeCells _ _ _ | exact ns_loadVar _ _ | exact ns_storeVar _ _ _ | exact ns_newRow _ _ | exact ns_newVar _ _ | exact ns_elemOf _ | exact ns_part _ _ _ | exact ns_runtimePanic _ | exact ns_boundsPanic _ _ _ _ | exact ns_asIntOf _ | exact ns_asInt _ | exact ns_asBool _ | exact ns_asAgg _ | exact ns_asAddr _ | exact ns_sureAddr _ | exact ns_loadAt _ _ | exact ns_storeAt _ _ _ | exact ns_indexAt _ _ _ | exact ns_sliceBound _ _ _ | exact ns_sliceBounds _ _ _ _ _ _ | exact ns_slice _ _ _ _ _ | exact ns_sliceAt _ _ _ _ _ | exact ns_arrayAt _ _ | exact ns_alloc _ _ _ | exact ns_box _ _ | exact ns_build _ _ | exact ns_buildSlice _ _ _ | exact ns_extract _ _ | refine NS.bind ?_ (fun _ => ?_) | refine ns_ite ?_ ?_) | split | dsimp only)
theorem ns_index (t : TypeId) (v i : Value) : NS l P (Instr.index t v i) := by
  unfold Instr.index
  repeat' (first | with_reducible (first | assumption | exact ns_pure _ | exact ns_map (ns_choose _) | exact ns_stuck _ | exact ns_uns _ | exact ns_goPanic _ | exact ns_program | exact ns_load _ _ | exact ns_store _ _ _ | exact ns_choose _ | exact ns_getObj _ | exact ns_cells _ _ | exact ns_mapO _ _ | exact ns_setMap _ _ _ | exact ns_room _ | exact ns_newLoop _ | exact ns_newDef _ | exact ns_setLoop _ _ | exact ns_setDef _ _ | exact ns_typeInfo _ | exact ns_underlying _ | exact ns_zeroValue _ | exact ns_sizeOf _ | exact ns_isAgg _ | exact ns_loadCells _ _ | exact ns_storeCells _ _ _ | exact ns_loadVar _ _ | exact ns_storeVar _ _ _ | exact ns_newRow _ _ | exact ns_newVar _ _ | exact ns_elemOf _ | exact ns_part _ _ _ | exact ns_runtimePanic _ | exact ns_boundsPanic _ _ _ _ | exact ns_asIntOf _ | exact ns_asInt _ | exact ns_asBool _ | exact ns_asAgg _ | exact ns_asAddr _ | exact ns_sureAddr _ | exact ns_loadAt _ _ | exact ns_storeAt _ _ _ | exact ns_indexAt _ _ _ | exact ns_sliceBound _ _ _ | exact ns_sliceBounds _ _ _ _ _ _ | exact ns_slice _ _ _ _ _ | exact ns_sliceAt _ _ _ _ _ | exact ns_arrayAt _ _ | exact ns_alloc _ _ _ | exact ns_box _ _ | exact ns_build _ _ | exact ns_buildSlice _ _ _ | exact ns_extract _ _ | exact ns_field _ _ _ | refine NS.bind ?_ (fun _ => ?_) | refine ns_ite ?_ ?_) | split | dsimp only)
theorem ns_makeFunc (f : Fn) (a b : Array Value) : NS l P (Instr.makeFunc f a b) := by
  unfold Instr.makeFunc
  repeat' (first | with_reducible (first | assumption | exact ns_pure _ | exact ns_map (ns_choose _) | exact ns_stuck _ | exact ns_uns _ | exact ns_goPanic _ | exact ns_program | exact ns_load _ _ | exact ns_store _ _ _ | exact ns_choose _ | exact ns_getObj _ | exact ns_cells _ _ | exact ns_mapO _ _ | exact ns_setMap _ _ _ | exact ns_room _ | exact ns_newLoop _ | exact ns_newDef _ | exact ns_setLoop _ _ | exact ns_setDef _ _ | exact ns_typeInfo _ | exact ns_underlying _ | exact ns_zeroValue _ | exact ns_sizeOf _ | exact ns_isAgg _ | exact ns_loadCells _ _ | exact ns_storeCells _ _ _ | exact ns_loadVar _ _ | exact ns_storeVar _ _ _ | exact ns_newRow _ _ | exact ns_newVar _ _ | exact ns_elemOf _ | exact ns_part _ _ _ | exact ns_runtimePanic _ | exact ns_boundsPanic _ _ _ _ | exact ns_asIntOf _ | exact ns_asInt _ | exact ns_asBool _ | exact ns_asAgg _ | exact ns_asAddr _ | exact ns_sureAddr _ | exact ns_loadAt _ _ | exact ns_storeAt _ _ _ | exact ns_indexAt _ _ _ | exact ns_sliceBound _ _ _ | exact ns_sliceBounds _ _ _ _ _ _ | exact ns_slice _ _ _ _ _ | exact ns_sliceAt _ _ _ _ _ | exact ns_arrayAt _ _ | exact ns_alloc _ _ _ | exact ns_box _ _ | exact ns_build _ _ | exact ns_buildSlice _ _ _ | exact ns_extract _ _ | exact ns_field _ _ _ | exact ns_index _ _ _ | refine NS.bind ?_ (fun _ => ?_) | refine ns_ite ?_ ?_) | split | dsimp only)
theorem ns_makeMap (t : TypeId) (r : Option Value) : NS l P (Instr.makeMap t r) := by
  unfold Instr.makeMap
  repeat' (first | with_reducible (first | assumption | exact ns_pure _ | exact ns_map (ns_choose _) | exact ns_stuck _ | exact ns_uns _ | exact ns_goPanic _ | exact ns_program | exact ns_load _ _ | exact ns_store _ _ _ | exact ns_choose _ | exact ns_getObj _ | exact ns_cells _ _ | exact ns_mapO _ _ | exact ns_setMap _ _ _ | exact ns_room _ | exact ns_newLoop _ | exact ns_newDef _ | exact ns_setLoop _ _ | exact ns_setDef _ _ | exact ns_typeInfo _ | exact ns_underlying _ | exact ns_zeroValue _ | exact ns_sizeOf _ | exact ns_isAgg _ | exact ns_loadCells _ _ | exact ns_storeCells _ _ _ | exact ns_loadVar _ _ | exact ns_storeVar _ _ _ | exact ns_newRow _ _ | exact ns_newVar _ _ | exact ns_elemOf _ | exact ns_part _ _ _ | exact ns_runtimePanic _ | exact ns_boundsPanic _ _ _ _ | exact ns_asIntOf _ | exact ns_asInt _ | exact ns_asBool _ | exact ns_asAgg _ | exact ns_asAddr _ | exact ns_sureAddr _ | exact ns_loadAt _ _ | exact ns_storeAt _ _ _ | exact ns_indexAt _ _ _ | exact ns_sliceBound _ _ _ | exact ns_sliceBounds _ _ _ _ _ _ | exact ns_slice _ _ _ _ _ | exact ns_sliceAt _ _ _ _ _ | exact ns_arrayAt _ _ | exact ns_alloc _ _ _ | exact ns_box _ _ | exact ns_build _ _ | exact ns_buildSlice _ _ _ | exact ns_extract _ _ | exact ns_field _ _ _ | exact ns_index _ _ _ | exact ns_makeFunc _ _ _ | refine NS.bind ?_ (fun _ => ?_) | refine ns_ite ?_ ?_) | split | dsimp only)
theorem ns_makeSlice (t : TypeId) (a b : Value) : NS l P (Instr.makeSlice t a b) := by
  unfold Instr.makeSlice
  repeat' (first | with_reducible (first | assumption | exact ns_pure _ | exact ns_map (ns_choose _) | exact ns_stuck _ | exact ns_uns _ | exact ns_goPanic _ | exact ns_program | exact ns_load _ _ | exact ns_store _ _ _ | exact ns_choose _ | exact ns_getObj _ | exact ns_cells _ _ | exact ns_mapO _ _ | exact ns_setMap _ _ _ | exact ns_room _ | exact ns_newLoop _ | exact ns_newDef _ | exact ns_setLoop _ _ | exact ns_setDef _ _ | exact ns_typeInfo _ | exact ns_underlying _ | exact ns_zeroValue _ | exact ns_sizeOf _ | exact ns_isAgg _ | exact ns_loadCells _ _ | exact ns_storeCells _ _ _ | exact ns_loadVar _ _ | exact ns_storeVar _ _ _ | exact ns_newRow _ _ | exact ns_newVar _ _ | exact ns_elemOf _ | exact ns_part _ _ _ | exact ns_runtimePanic _ | exact ns_boundsPanic _ _ _ _ | exact ns_asIntOf _ | exact ns_asInt _ | exact ns_asBool _ | exact ns_asAgg _ | exact ns_asAddr _ | exact ns_sureAddr _ | exact ns_loadAt _ _ | exact ns_storeAt _ _ _ | exact ns_indexAt _ _ _ | exact ns_sliceBound _ _ _ | exact ns_sliceBounds _ _ _ _ _ _ | exact ns_slice _ _ _ _ _ | exact ns_sliceAt _ _ _ _ _ | exact ns_arrayAt _ _ | exact ns_alloc _ _ _ | exact ns_box _ _ | exact ns_build _ _ | exact ns_buildSlice _ _ _ | exact ns_extract _ _ | exact ns_field _ _ _ | exact ns_index _ _ _ | exact ns_makeFunc _ _ _ | exact ns_makeMap _ _ | refine NS.bind ?_ (fun _ => ?_) | refine ns_ite ?_ ?_) | split | dsimp only)
theorem ns_makeInterface (t : TypeId) (a : Value) : NS l P (Instr.makeInterface t a) := by
  unfold Instr.makeInterface
  repeat' (first | with_reducible (first | assumption | exact ns_pure _ | exact ns_map (ns_choose _) | exact ns_stuck _ | exact ns_uns _ | exact ns_goPanic _ | exact ns_program | exact ns_load _ _ | exact ns_store _ _ _ | exact ns_choose _ | exact ns_getObj _ | exact ns_cells _ _ | exact ns_mapO _ _ | exact ns_setMap _ _ _ | exact ns_room _ | exact ns_newLoop _ | exact ns_newDef _ | exact ns_setLoop _ _ | exact ns_setDef _ _ | exact ns_typeInfo _ | exact ns_underlying _ | exact ns_zeroValue _ | exact ns_sizeOf _ | exact ns_isAgg _ | exact ns_loadCells _ _ | exact ns_storeCells _ _ _ | exact ns_loadVar _ _ | exact ns_storeVar _ _ _ | exact ns_newRow _ _ | exact ns_newVar _ _ | exact ns_elemOf _ | exact ns_part _ _ _ | exact ns_runtimePanic _ | exact ns_boundsPanic _ _ _ _ | exact ns_asIntOf _ | exact ns_asInt _ | exact ns_asBool _ | exact ns_asAgg _ | exact ns_asAddr _ | exact ns_sureAddr _ | exact ns_loadAt _ _ | exact ns_storeAt _ _ _ | exact ns_indexAt _ _ _ | exact ns_sliceBound _ _ _ | exact ns_sliceBounds _ _ _ _ _ _ | exact ns_slice _ _ _ _ _ | exact ns_sliceAt _ _ _ _ _ | exact ns_arrayAt _ _ | exact ns_alloc _ _ _ | exact ns_box _ _ | exact ns_build _ _ | exact ns_buildSlice _ _ _ | exact ns_extract _ _ | exact ns_field _ _ _ | exact ns_index _ _ _ | exact ns_makeFunc _ _ _ | exact ns_makeMap _ _ | exact ns_makeSlice _ _ _ | refine NS.bind ?_ (fun _ => ?_) | refine ns_ite ?_ ?_) | split | dsimp only)
theorem ns_intArith (op : BinOp) (k : IntKind) (x y : Int) : NS l P (Op.intArith op k x y) := by
  unfold Op.intArith
  repeat' (first | with_reducible (first | assumption | exact ns_pure _ | exact ns_map (ns_choose _) | exact ns_stuck _ | exact ns_uns _ | exact ns_goPanic _ | exact ns_program | exact ns_load _ _ | exact ns_store _ _ _ | exact ns_choose _ | exact ns_getObj _ | exact ns_cells _ _ | exact ns_mapO _ _ | exact ns_setMap _ _ _ | exact ns_room _ | exact ns_newLoop _ | exact ns_newDef _ | exact ns_setLoop _ _ | exact ns_setDef _ _ | exact ns_typeInfo _ | exact ns_underlying _ | exact ns_zeroValue _ | exact ns_sizeOf _ | exact ns_isAgg _ | exact ns_loadCells _ _ | exact ns_storeCells _ _ _ | exact ns_loadVar _ _ | exact ns_storeVar _ _ _ | exact ns_newRow _ _ | exact ns_newVar _ _ | exact ns_elemOf _ | exact ns_part _ _ _ | exact ns_runtimePanic _ | exact ns_boundsPanic _ _ _ _ | exact ns_asIntOf _ | exact ns_asInt _ | exact ns_asBool _ | exact ns_asAgg _ | exact ns_asAddr _ | exact ns_sureAddr _ | exact ns_loadAt _ _ | exact ns_storeAt _ _ _ | exact ns_indexAt _ _ _ | exact ns_sliceBound _ _ _ | exact ns_sliceBounds _ _ _ _ _ _ | exact ns_slice _ _ _ _ _ | exact ns_sliceAt _ _ _ _ _ | exact ns_arrayAt _ _ | exact ns_alloc _ _ _ | exact ns_box _ _ | exact ns_build _ _ | exact ns_buildSlice _ _ _ | exact ns_extract _ _ | exact ns_field _ _ _ | exact ns_index _ _ _ | exact ns_makeFunc _ _ _ | exact ns_makeMap _ _ | exact ns_makeSlice _ _ _ | exact ns_makeInterface _ _ | refine NS.bind ?_ (fun _ => ?_) | refine ns_ite ?_ ?_) | split | dsimp only)
theorem ns_intDiv (op : BinOp) (k : IntKind) (x y : Int) : NS l P (Op.intDiv op k x y) := by
  unfold Op.intDiv
  repeat' (first | with_reducible (first | assumption | exact ns_pure _ | exact ns_map (ns_choose _) | exact ns_stuck _ | exact ns_uns _ | exact ns_goPanic _ | exact ns_program | exact ns_load _ _ | exact ns_store _ _ _ | exact ns_choose _ | exact ns_getObj _ | exact ns_cells _ _ | exact ns_mapO _ _ | exact ns_setMap _ _ _ | exact ns_room _ | exact ns_newLoop _ | exact ns_newDef _ | exact ns_setLoop _ _ | exact ns_setDef _ _ | exact ns_typeInfo _ | exact ns_underlying _ | exact ns_zeroValue _ | exact ns_sizeOf _ | exact ns_isAgg _ | exact ns_loadCells _ _ | exact ns_storeCells _ _ _ | exact ns_loadVar _ _ | exact ns_storeVar _ _ _ | exact ns_newRow _ _ | exact ns_newVar _ _ | exact ns_elemOf _ | exact ns_part _ _ _ | exact ns_runtimePanic _ | exact ns_boundsPanic _ _ _ _ | exact ns_asIntOf _ | exact ns_asInt _ | exact ns_asBool _ | exact ns_asAgg _ | exact ns_asAddr _ | exact ns_sureAddr _ | exact ns_loadAt _ _ | exact ns_storeAt _ _ _ | exact ns_indexAt _ _ _ | exact ns_sliceBound _ _ _ | exact ns_sliceBounds _ _ _ _ _ _ | exact ns_slice _ _ _ _ _ | exact ns_sliceAt _ _ _ _ _ | exact ns_arrayAt _ _ | exact ns_alloc _ _ _ | exact ns_box _ _ | exact ns_build _ _ | exact ns_buildSlice _ _ _ | exact ns_extract _ _ | exact ns_field _ _ _ | exact ns_index _ _ _ | exact ns_makeFunc _ _ _ | exact ns_makeMap _ _ | exact ns_makeSlice _ _ _ | exact ns_makeInterface _ _ | exact ns_intArith _ _ _ _ | refine NS.bind ?_ (fun _ => ?_) | refine ns_ite ?_ ?_) | split | dsimp only)
theorem ns_intBits (op : BinOp) (k : IntKind) (x y : Int) : NS l P (Op.intBits op k x y) := by
  unfold Op.intBits
  repeat' (first | with_reducible (first | assumption | exact ns_pure _ | exact ns_map (ns_choose _) | exact ns_stuck _ | exact ns_uns _ | exact ns_goPanic _ | exact ns_program | exact ns_load _ _ | exact ns_store _ _ _ | exact ns_choose _ | exact ns_getObj _ | exact ns_cells _ _ | exact ns_mapO _ _ | exact ns_setMap _ _ _ | exact ns_room _ | exact ns_newLoop _ | exact ns_newDef _ | exact ns_setLoop _ _ | exact ns_setDef _ _ | exact ns_typeInfo _ | exact ns_underlying _ | exact ns_zeroValue _ | exact ns_sizeOf _ | exact ns_isAgg _ | exact ns_loadCells _ _ | exact ns_storeCells _ _ _ | exact ns_loadVar _ _ | exact ns_storeVar _ _ _ | exact ns_newRow _ _ | exact ns_newVar _ _ | exact ns_elemOf _ | exact ns_part _ _ _ | exact ns_runtimePanic _ | exact ns_boundsPanic _ _ _ _ | exact ns_asIntOf _ | exact ns_asInt _ | exact ns_asBool _ | exact ns_asAgg _ | exact ns_asAddr _ | exact ns_sureAddr _ | exact ns_loadAt _ _ | exact ns_storeAt _ _ _ | exact ns_indexAt _ _ _ | exact ns_sliceBound _ _ _ | exact ns_sliceBounds _ _ _ _ _ _ | exact ns_slice _ _ _ _ _ | exact ns_sliceAt _ _ _ _ _ | exact ns_arrayAt _ _ | exact ns_alloc _ _ _ | exact ns_box _ _ | exact ns_build _ _ | exact ns_buildSlice _ _ _ | exact ns_extract _ _ | exact ns_field _ _ _ | exact ns_index _ _ _ | exact ns_makeFunc _ _ _ | exact ns_makeMap _ _ | exact ns_makeSlice _ _ _ | exact ns_makeInterface _ _ | exact ns_intArith _ _ _ _ | exact ns_intDiv _ _ _ _ | refine NS.bind ?_ (fun _ => ?_) | refine ns_ite ?_ ?_) | split | dsimp only)
theorem ns_intCmp (op : BinOp) (x y : Int) : NS l P (Op.intCmp op x y) := by
  unfold Op.intCmp
  repeat' (first | with_reducible (first | assumption | exact ns_pure _ | exact ns_map (ns_choose _) | exact ns_stuck _ | exact ns_uns _ | exact ns_goPanic _ | exact ns_program | exact ns_load _ _ | exact ns_store _ _ _ | exact ns_choose _ | exact ns_getObj _ | exact ns_cells _ _ | exact ns_mapO _ _ | exact ns_setMap _ _ _ | exact ns_room _ | exact ns_newLoop _ | exact ns_newDef _ | exact ns_setLoop _ _ | exact ns_setDef _ _ | exact ns_typeInfo _ | exact ns_underlying _ | exact ns_zeroValue _ | exact ns_sizeOf _ | exact ns_isAgg _ | exact ns_loadCells _ _ | exact ns_storeCells _ _ _ | exact ns_loadVar _ _ | exact ns_storeVar _ _ _ | exact ns_newRow _ _ | exact ns_newVar _ _ | exact ns_elemOf _ | exact ns_part _ _ _ | exact ns_runtimePanic _ | exact ns_boundsPanic _ _ _ _ | exact ns_asIntOf _ | exact ns_asInt _ | exact ns_asBool _ | exact ns_asAgg _ | exact ns_asAddr _ | exact ns_sureAddr _ | exact ns_loadAt _ _ | exact ns_storeAt _ _ _ | exact ns_indexAt _ _ _ | exact ns_sliceBound _ _ _ | exact ns_sliceBounds _ _ _ _ _ _ | exact ns_slice _ _ _ _ _ | exact ns_sliceAt _ _ _ _ _ | exact ns_arrayAt _ _ | exact ns_alloc _ _ _ | exact ns_box _ _ | exact ns_build _ _ | exact ns_buildSlice _ _ _ | exact ns_extract _ _ | exact ns_field _ _ _ | exact ns_index _ _ _ | exact ns_makeFunc _ _ _ | exact ns_makeMap _ _ | exact ns_makeSlice _ _ _ | exact ns_makeInterface _ _ | exact ns_intArith _ _ _ _ | exact ns_intDiv _ _ _ _ | exact ns_intBits _ _ _ _ | refine NS.bind ?_ (fun _ => ?_) | refine ns_ite ?_ ?_) | split | dsimp only)
theorem ns_shift (op : BinOp) (k : IntKind) (x : Int) (k2 : IntKind) (y : Int) : NS l P (Op.shift op k x k2 y) := by
  unfold Op.shift
  repeat' (first | with_reducible (first | assumption | exact ns_pure _ | exact ns_map (ns_choose _) | exact ns_stuck _ | exact ns_uns _ | exact ns_goPanic _ | exact ns_program | exact ns_load _ _ | exact ns_store _ _ _ | exact ns_choose _ | exact ns_getObj _ | exact ns_cells _ _ | exact ns_mapO _ _ | exact ns_setMap _ _ _ | exact ns_room _ | exact ns_newLoop _ | exact ns_newDef _ | exact ns_setLoop _ _ | exact ns_setDef _ _ | exact ns_typeInfo _ | exact ns_underlying _ | exact ns_zeroValue _ | exact ns_sizeOf _ | exact ns_isAgg _ | exact ns_loadCells _ _ | exact ns_storeCells _ _ _ | exact ns_loadVar _ _ | exact ns_storeVar _ _ _ | exact ns_newRow _ _ | exact ns_newVar _ _ | exact ns_elemOf _ | exact ns_part _ _ _ | exact ns_runtimePanic _ | exact ns_boundsPanic _ _ _ _ | exact ns_asIntOf _ | exact ns_asInt _ | exact ns_asBool _ | exact ns_asAgg _ | exact ns_asAddr _ | exact ns_sureAddr _ | exact ns_loadAt _ _ | exact ns_storeAt _ _ _ | exact ns_indexAt _ _ _ | exact ns_sliceBound _ _ _ | exact ns_sliceBounds _ _ _ _ _ _ | exact ns_slice _ _ _ _ _ | exact ns_sliceAt _ _ _ _ _ | exact ns_arrayAt _ _ | exact ns_alloc _ _ _ | exact ns_box _ _ | exact ns_build _ _ | exact ns_buildSlice _ _ _ | exact ns_extract _ _ | exact ns_field _ _ _ | exact ns_index _ _ _ | exact ns_makeFunc _ _ _ | exact ns_makeMap _ _ | exact ns_makeSlice _ _ _ | exact ns_makeInterface _ _ | exact ns_intArith _ _ _ _ | exact ns_intDiv _ _ _ _ | exact ns_intBits _ _ _ _ | exact ns_intCmp _ _ _ | refine NS.bind ?_ (fun _ => ?_) | refine ns_ite ?_ ?_) | split | dsimp only)
theorem ns_stringOp (op : BinOp) (x y : ByteArray) : NS l P (Op.stringOp op x y) := by
  unfold Op.stringOp
  repeat' (first | with_reducible (first | assumption | exact ns_pure _ | exact ns_map (ns_choose _) | exact ns_stuck _ | exact ns_uns _ | exact ns_goPanic _ | exact ns_program | exact ns_load _ _ | exact ns_store _ _ _ | exact ns_choose _ | exact ns_getObj _ | exact ns_cells _ _ | exact ns_mapO _ _ | exact ns_setMap _ _ _ | exact ns_room _ | exact ns_newLoop _ | exact ns_newDef _ | exact ns_setLoop _ _ | exact ns_setDef _ _ | exact ns_typeInfo _ | exact ns_underlying _ | exact ns_zeroValue _ | exact ns_sizeOf _ | exact ns_isAgg _ | exact ns_loadCells _ _ | exact ns_storeCells _ _ _ | exact ns_loadVar _ _ | exact ns_storeVar _ _ _ | exact ns_newRow _ _ | exact ns_newVar _ _ | exact ns_elemOf _ | exact ns_part _ _ _ | exact ns_runtimePanic _ | exact ns_boundsPanic _ _ _ _ | exact ns_asIntOf _ | exact ns_asInt _ | exact ns_asBool _ | exact ns_asAgg _ | exact ns_asAddr _ | exact ns_sureAddr _ | exact ns_loadAt _ _ | exact ns_storeAt _ _ _ | exact ns_indexAt _ _ _ | exact ns_sliceBound _ _ _ | exact ns_sliceBounds _ _ _ _ _ _ | exact ns_slice _ _ _ _ _ | exact ns_sliceAt _ _ _ _ _ | exact ns_arrayAt _ _ | exact ns_alloc _ _ _ | exact ns_box _ _ | exact ns_build _ _ | exact ns_buildSlice _ _ _ | exact ns_extract _ _ | exact ns_field _ _ _ | exact ns_index _ _ _ | exact ns_makeFunc _ _ _ | exact ns_makeMap _ _ | exact ns_makeSlice _ _ _ | exact ns_makeInterface _ _ | exact ns_intArith _ _ _ _ | exact ns_intDiv _ _ _ _ | exact ns_intBits _ _ _ _ | exact ns_intCmp _ _ _ | exact ns_shift _ _ _ _ _ | refine NS.bind ?_ (fun _ => ?_) | refine ns_ite ?_ ?_) | split | dsimp only)
theorem ns_unary (op : UnOp) (x : Value) : NS l P (Op.unary op x) := by
  unfold Op.unary
  repeat' (first | with_reducible (first | assumption | exact ns_pure _ | exact ns_map (ns_choose _) | exact ns_stuck _ | exact ns_uns _ | exact ns_goPanic _ | exact ns_program | exact ns_load _ _ | exact ns_store _ _ _ | exact ns_choose _ | exact ns_getObj _ | exact ns_cells _ _ | exact ns_mapO _ _ | exact ns_setMap _ _ _ | exact ns_room _ | exact ns_newLoop _ | exact ns_newDef _ | exact ns_setLoop _ _ | exact ns_setDef _ _ | exact ns_typeInfo _ | exact ns_underlying _ | exact ns_zeroValue _ | exact ns_sizeOf _ | exact ns_isAgg _ | exact ns_loadCells _ _ | exact ns_storeCells _ _ _ | exact ns_loadVar _ _ | exact ns_storeVar _ _ _ | exact ns_newRow _ _ | exact ns_newVar _ _ | exact ns_elemOf _ | exact ns_part _ _ _ | exact ns_runtimePanic _ | exact ns_boundsPanic _ _ _ _ | exact ns_asIntOf _ | exact ns_asInt _ | exact ns_asBool _ | exact ns_asAgg _ | exact ns_asAddr _ | exact ns_sureAddr _ | exact ns_loadAt _ _ | exact ns_storeAt _ _ _ | exact ns_indexAt _ _ _ | exact ns_sliceBound _ _ _ | exact ns_sliceBounds _ _ _ _ _ _ | exact ns_slice _ _ _ _ _ | exact ns_sliceAt _ _ _ _ _ | exact ns_arrayAt _ _ | exact ns_alloc _ _ _ | exact ns_box _ _ | exact ns_build _ _ | exact ns_buildSlice _ _ _ | exact ns_extract _ _ | exact ns_field _ _ _ | exact ns_index _ _ _ | exact ns_makeFunc _ _ _ | exact ns_makeMap _ _ | exact ns_makeSlice _ _ _ | exact ns_makeInterface _ _ | exact ns_intArith _ _ _ _ | exact ns_intDiv _ _ _ _ | exact ns_intBits _ _ _ _ | exact ns_intCmp _ _ _ | exact ns_shift _ _ _ _ _ | exact ns_stringOp _ _ _ | refine NS.bind ?_ (fun _ => ?_) | refine ns_ite ?_ ?_) | split | dsimp only)
theorem ns_lenOf (v : Value) : NS l P (Builtin.lenOf v) := by
  unfold Builtin.lenOf
  repeat' (first | with_reducible (first | assumption | exact ns_pure _ | exact ns_map (ns_choose _) | exact ns_stuck _ | exact ns_uns _ | exact ns_goPanic _ | exact ns_program | exact ns_load _ _ | exact ns_store _ _ _ | exact ns_choose _ | exact ns_getObj _ | exact ns_cells _ _ | exact ns_mapO _ _ | exact ns_setMap _ _ _ | exact ns_room _ | exact ns_newLoop _ | exact ns_newDef _ | exact ns_setLoop _ _ | exact ns_setDef _ _ | exact ns_typeInfo _ | exact ns_underlying _ | exact ns_zeroValue _ | exact ns_sizeOf _ | exact ns_isAgg _ | exact ns_loadCells _ _ | exact ns_storeCells _ _ _ | exact ns_loadVar _ _ | exact ns_storeVar _ _ _ | exact ns_newRow _ _ | exact ns_newVar _ _ | exact ns_elemOf _ | exact ns_part _ _ _ | exact ns_runtimePanic _ | exact ns_boundsPanic _ _ _ _ | exact ns_asIntOf _ | exact ns_asInt _ | exact ns_asBool _ | exact ns_asAgg _ | exact ns_asAddr _ | exact ns_sureAddr _ | exact ns_loadAt _ _ | exact ns_storeAt _ _ _ | exact ns_indexAt _ _ _ | exact ns_sliceBound _ _ _ | exact ns_sliceBounds _ _ _ _ _ _ | exact ns_slice _ _ _ _ _ | exact ns_sliceAt _ _ _ _ _ | exact ns_arrayAt _ _ | exact ns_alloc _ _ _ | exact ns_box _ _ | exact ns_build _ _ | exact ns_buildSlice _ _ _ | exact ns_extract _ _ | exact ns_field _ _ _ | exact ns_index _ _ _ | exact ns_makeFunc _ _ _ | exact ns_makeMap _ _ | exact ns_makeSlice _ _ _ | exact ns_makeInterface _ _ | exact ns_intArith _ _ _ _ | exact ns_intDiv _ _ _ _ | exact ns_intBits _ _ _ _ | exact ns_intCmp _ _ _ | exact ns_shift _ _ _ _ _ | exact ns_stringOp _ _ _ | exact ns_unary _ _ | refine NS.bind ?_ (fun _ => ?_) | refine ns_ite ?_ ?_) | split | dsimp only)
theorem ns_firstCells (n m : Nat) (v : Value) : NS l P (Builtin.firstCells n m v) := by
  unfold Builtin.firstCells
  repeat' (first | with_reducible (first | assumption | exact ns_pure _ | exact ns_map (ns_choose _) | exact ns_stuck _ | exact ns_uns _ | exact ns_goPanic _ | exact ns_program | exact ns_load _ _ | exact ns_store _ _ _ | exact ns_choose _ | exact ns_getObj _ | exact ns_cells _ _ | exact ns_mapO _ _ | exact ns_setMap _ _ _ | exact ns_room _ | exact ns_newLoop _ | exact ns_newDef _ | exact ns_setLoop _ _ | exact ns_setDef _ _ | exact ns_typeInfo _ | exact ns_underlying _ | exact ns_zeroValue _ | exact ns_sizeOf _ | exact ns_isAgg _ | exact ns_loadCells _ _ | exact ns_storeCells _ _ _ | exact ns_loadVar _ _ | exact ns_storeVar _ _ _ | exact ns_newRow _ _ | exact ns_newVar _ _ | exact ns_elemOf _ | exact ns_part _ _ _ | exact ns_runtimePanic _ | exact ns_boundsPanic _ _ _ _ | exact ns_asIntOf _ | exact ns_asInt _ | exact ns_asBool _ | exact ns_asAgg _ | exact ns_asAddr _ | exact ns_sureAddr _ | exact ns_loadAt _ _ | exact ns_storeAt _ _ _ | exact ns_indexAt _ _ _ | exact ns_sliceBound _ _ _ | exact ns_sliceBounds _ _ _ _ _ _ | exact ns_slice _ _ _ _ _ | exact ns_sliceAt _ _ _ _ _ | exact ns_arrayAt _ _ | exact ns_alloc _ _ _ | exact ns_box _ _ | exact ns_build _ _ | exact ns_buildSlice _ _ _ | exact ns_extract _ _ | exact ns_field _ _ _ | exact ns_index _ _ _ | exact ns_makeFunc _ _ _ | exact ns_makeMap _ _ | exact ns_makeSlice _ _ _ | exact ns_makeInterface _ _ | exact ns_intArith _ _ _ _ | exact ns_intDiv _ _ _ _ | exact ns_intBits _ _ _ _ | exact ns_intCmp _ _ _ | exact ns_shift _ _ _ _ _ | exact ns_stringOp _ _ _ | exact ns_unary _ _ | exact ns_lenOf _ | refine NS.bind ?_ (fun _ => ?_) | refine ns_ite ?_ ?_) | split | dsimp only)
theorem ns_copy (a : Array TypeId) (t : TypeId) (v : Array Value) : NS l P (Builtin.copy_ a t v) := by
  unfold Builtin.copy_
  repeat' (first | with_reducible (first | assumption | exact ns_pure _ | exact ns_map (ns_choose _) | exact ns_stuck _ | exact ns_uns _ | exact ns_goPanic _ | exact ns_program | exact ns_load _ _ | exact ns_store _ _ _ | exact ns_choose _ | exact ns_getObj _ | exact ns_cells _ _ | exact ns_mapO _ _ | exact ns_setMap _ _ _ | exact ns_room _ | exact ns_newLoop _ | exact ns_newDef _ | exact ns_setLoop _ _ | exact ns_setDef _ _ | exact ns_typeInfo _ | exact ns_underlying _ | exact ns_zeroValue _ | exact ns_sizeOf _ | exact ns_isAgg _ | exact ns_loadCells _ _ | exact ns_storeCells _ _ _ | exact ns_loadVar _ _ | exact ns_storeVar _ _ _ | exact ns_newRow _ _ | exact ns_newVar _ _ | exact ns_elemOf _ | exact ns_part _ _ _ | exact ns_runtimePanic _ | exact ns_boundsPanic _ _ _ _ | exact ns_asIntOf _ | exact ns_asInt _ | exact ns_asBool _ | exact ns_asAgg _ | exact ns_asAddr _ | exact ns_sureAddr _ | exact ns_loadAt _ _ | exact ns_storeAt _ _ _ | exact ns_indexAt _ _ _ | exact ns_sliceBound _ _ _ | exact ns_sliceBounds _ _ _ _ _ _ | exact ns_slice _ _ _ _ _ | exact ns_sliceAt _ _ _ _ _ | exact ns_arrayAt _ _ | exact ns_alloc _ _ _ | exact ns_box _ _ | exact ns_build _ _ | exact ns_buildSlice _ _ _ | exact ns_extract _ _ | exact ns_field _ _ _ | exact ns_index _ _ _ | exact ns_makeFunc _ _ _ | exact ns_makeMap _ _ | exact ns_makeSlice _ _ _ | exact ns_makeInterface _ _ | exact ns_intArith _ _ _ _ | exact ns_intDiv _ _ _ _ | exact ns_intBits _ _ _ _ | exact ns_intCmp _ _ _ | exact ns_shift _ _ _ _ _ | exact ns_stringOp _ _ _ | exact ns_unary _ _ | exact ns_lenOf _ | exact ns_firstCells _ _ _ | refine NS.bind ?_ (fun _ => ?_) | refine ns_ite ?_ ?_) | split | dsimp only)
theorem ns_len (a : Array TypeId) (t : TypeId) (v : Array Value) : NS l P (Builtin.len_ a t v) := by
  unfold Builtin.len_
  repeat' (first | with_reducible (first | assumption | exact ns_pure _ | exact ns_map (ns_choose _) | exact ns_stuck _ | exact ns_uns _ | exact ns_goPanic _ | exact ns_program | exact ns_load _ _ | exact ns_store _ _ _ | exact ns_choose _ | exact ns_getObj _ | exact ns_cells _ _ | exact ns_mapO _ _ | exact ns_setMap _ _ _ | exact ns_room _ | exact ns_newLoop _ | exact ns_newDef _ | exact ns_setLoop _ _ | exact ns_setDef _ _ | exact ns_typeInfo _ | exact ns_underlying _ | exact ns_zeroValue _ | exact ns_sizeOf _ | exact ns_isAgg _ | exact ns_loadCells _ _ | exact ns_storeCells _ _ _ | exact ns_loadVar _ _ | exact ns_storeVar _ _ _ | exact ns_newRow _ _ | exact ns_newVar _ _ | exact ns_elemOf _ | exact ns_part _ _ _ | exact ns_runtimePanic _ | exact ns_boundsPanic _ _ _ _ | exact ns_asIntOf _ | exact ns_asInt _ | exact ns_asBool _ | exact ns_asAgg _ | exact ns_asAddr _ | exact ns_sureAddr _ | exact ns_loadAt _ _ | exact ns_storeAt _ _ _ | exact ns_indexAt _ _ _ | exact ns_sliceBound _ _ _ | exact ns_sliceBounds _ _ _ _ _ _ | exact ns_slice _ _ _ _ _ | exact ns_sliceAt _ _ _ _ _ | exact ns_arrayAt _ _ | exact ns_alloc _ _ _ | exact ns_box _ _ | exact ns_build _ _ | exact ns_buildSlice _ _ _ | exact ns_extract _ _ | exact ns_field _ _ _ | exact ns_index _ _ _ | exact ns_makeFunc _ _ _ | exact ns_makeMap _ _ | exact ns_makeSlice _ _ _ | exact ns_makeInterface _ _ | exact ns_intArith _ _ _ _ | exact ns_intDiv _ _ _ _ | exact ns_intBits _ _ _ _ | exact ns_intCmp _ _ _ | exact ns_shift _ _ _ _ _ | exact ns_stringOp _ _ _ | exact ns_unary _ _ | exact ns_lenOf _ | exact ns_firstCells _ _ _ | exact ns_copy _ _ _ | refine NS.bind ?_ (fun _ => ?_) | refine ns_ite ?_ ?_) | split | dsimp only)
theorem ns_cap (a : Array TypeId) (t : TypeId) (v : Array Value) : NS l P (Builtin.cap_ a t v) := by
  unfold Builtin.cap_
  repeat' (first | with_reducible (first | assumption | exact ns_pure _ | exact ns_map (ns_choose _) | exact ns_stuck _ | exact ns_uns _ | exact ns_goPanic _ | exact ns_program | exact ns_load _ _ | exact ns_store _ _ _ | exact ns_choose _ | exact ns_getObj _ | exact ns_cells _ _ | exact ns_mapO _ _ | exact ns_setMap _ _ _ | exact ns_room _ | exact ns_newLoop _ | exact ns_newDef _ | exact ns_setLoop _ _ | exact ns_setDef _ _ | exact ns_typeInfo _ | exact ns_underlying _ | exact ns_zeroValue _ | exact ns_sizeOf _ | exact ns_isAgg _ | exact ns_loadCells _ _ | exact ns_storeCells _ _ _ | exact ns_loadVar _ _ | exact ns_storeVar _ _ _ | exact ns_newRow _ _ | exact ns_newVar _ _ | exact ns_elemOf _ | exact ns_part _ _ _ | exact ns_runtimePanic _ | exact ns_boundsPanic _ _ _ _ | exact ns_asIntOf _ | exact ns_asInt _ | exact ns_asBool _ | exact ns_asAgg _ | exact ns_asAddr _ | exact ns_sureAddr _ | exact ns_loadAt _ _ | exact ns_storeAt _ _ _ | exact ns_indexAt _ _ _ | exact ns_sliceBound _ _ _ | exact ns_sliceBounds _ _ _ _ _ _ | exact ns_slice _ _ _ _ _ | exact ns_sliceAt _ _ _ _ _ | exact ns_arrayAt _ _ | exact ns_alloc _ _ _ | exact ns_box _ _ | exact ns_build _ _ | exact ns_buildSlice _ _ _ | exact ns_extract _ _ | exact ns_field _ _ _ | exact ns_index _ _ _ | exact ns_makeFunc _ _ _ | exact ns_makeMap _ _ | exact ns_makeSlice _ _ _ | exact ns_makeInterface _ _ | exact ns_intArith _ _ _ _ | exact ns_intDiv _ _ _ _ | exact ns_intBits _ _ _ _ | exact ns_intCmp _ _ _ | exact ns_shift _ _ _ _ _ | exact ns_stringOp _ _ _ | exact ns_unary _ _ | exact ns_lenOf _ | exact ns_firstCells _ _ _ | exact ns_copy _ _ _ | exact ns_len _ _ _ | refine NS.bind ?_ (fun _ => ?_) | refine ns_ite ?_ ?_) | split | dsimp only)
theorem ns_shape (hl : l ≤ 1) (r : Nat) : NS l P (shape r) := ⟨.inl hl, fun _ => trivial⟩
theorem ns_frozen (hl : l ≤ 1) (a : Addr) : NS l P (frozen a) := ⟨.inl hl, fun _ => trivial⟩
theorem ns_freeze (hl : l ≤ 1) (a : Addr) (n : Nat) : NS l P (freeze a n) := ⟨hl, trivial⟩
theorem ns_new1 (hl : l ≤ 1) (o : Obj) : NS l P (newObj o) := ⟨fun h => (by omega), fun _ => trivial⟩
theorem ns_set1 (hl : l ≤ 1) (r : Nat) (o : Obj) : NS l P (setObj r o) := ⟨fun h => (by omega), trivial⟩
theorem ns_viewAt (hl : l ≤ 1) (r : Nat) : NS l P (viewAt r) := by
  unfold viewAt
  repeat' (first | with_reducible (first | assumption | exact ns_pure _ | exact ns_map (ns_choose _) | exact ns_map (ns_choose _) | exact ns_stuck _ | exact ns_uns _ | exact ns_goPanic _ | exact ns_program | exact ns_load _ _ | exact ns_store _ _ _ | exact ns_choose _ | exact ns_getObj _ | exact ns_cells _ _ | exact ns_mapO _ _ | exact ns_setMap _ _ _ | exact ns_room _ | exact ns_newLoop _ | exact ns_newDef _ | exact ns_setLoop _ _ | exact ns_setDef _ _ | exact ns_typeInfo _ | exact ns_underlying _ | exact ns_zeroValue _ | exact ns_sizeOf _ | exact ns_isAgg _ | exact ns_loadCells _ _ | exact ns_storeCells _ _ _ | exact ns_loadVar _ _ | exact ns_storeVar _ _ _ | exact ns_newRow _ _ | exact ns_newVar _ _ | exact ns_elemOf _ | exact ns_part _ _ _ | exact ns_runtimePanic _ | exact ns_boundsPanic _ _ _ _ | exact ns_asIntOf _ | exact ns_asInt _ | exact ns_asBool _ | exact ns_asAgg _ | exact ns_asAddr _ | exact ns_sureAddr _ | exact ns_loadAt _ _ | exact ns_storeAt _ _ _ | exact ns_indexAt _ _ _ | exact ns_sliceBound _ _ _ | exact ns_sliceBounds _ _ _ _ _ _ | exact ns_slice _ _ _ _ _ | exact ns_sliceAt _ _ _ _ _ | exact ns_arrayAt _ _ | exact ns_alloc _ _ _ | exact ns_box _ _ | exact ns_build _ _ | exact ns_buildSlice _ _ _ | exact ns_extract _ _ | exact ns_field _ _ _ | exact ns_index _ _ _ | exact ns_makeFunc _ _ _ | exact ns_makeMap _ _ | exact ns_makeSlice _ _ _ | exact ns_makeInterface _ _ | exact ns_intArith _ _ _ _ | exact ns_intDiv _ _ _ _ | exact ns_intBits _ _ _ _ | exact ns_intCmp _ _ _ | exact ns_shift _ _ _ _ _ | exact ns_stringOp _ _ _ | exact ns_unary _ _ | exact ns_lenOf _ | exact ns_firstCells _ _ _ | exact ns_copy _ _ _ | exact ns_len _ _ _ | exact ns_cap _ _ _ | exact ns_shape hl _ | exact ns_frozen hl _ | exact ns_freeze hl _ _ | exact ns_new1 hl _ | exact ns_set1 hl _ _ | refine NS.bind ?_ (fun _ => ?_) | refine ns_ite ?_ ?_) | split | dsimp only)
theorem ns_numberAt (hl : l ≤ 1) (r : Nat) : NS l P (numberAt r) := by
  unfold numberAt
  repeat' (first | with_reducible (first | assumption | exact ns_pure _ | exact ns_map (ns_choose _) | exact ns_map (ns_choose _) | exact ns_stuck _ | exact ns_uns _ | exact ns_goPanic _ | exact ns_program | exact ns_load _ _ | exact ns_store _ _ _ | exact ns_choose _ | exact ns_getObj _ | exact ns_cells _ _ | exact ns_mapO _ _ | exact ns_setMap _ _ _ | exact ns_room _ | exact ns_newLoop _ | exact ns_newDef _ | exact ns_setLoop _ _ | exact ns_setDef _ _ | exact ns_typeInfo _ | exact ns_underlying _ | exact ns_zeroValue _ | exact ns_sizeOf _ | exact ns_isAgg _ | exact ns_loadCells _ _ | exact ns_storeCells _ _ _ | exact ns_loadVar _ _ | exact ns_storeVar _ _ _ | exact ns_newRow _ _ | exact ns_newVar _ _ | exact ns_elemOf _ | exact ns_part _ _ _ | exact ns_runtimePanic _ | exact ns_boundsPanic _ _ _ _ | exact ns_asIntOf _ | exact ns_asInt _ | exact ns_asBool _ | exact ns_asAgg _ | exact ns_asAddr _ | exact ns_sureAddr _ | exact ns_loadAt _ _ | exact ns_storeAt _ _ _ | exact ns_indexAt _ _ _ | exact ns_sliceBound _ _ _ | exact ns_sliceBounds _ _ _ _ _ _ | exact ns_slice _ _ _ _ _ | exact ns_sliceAt _ _ _ _ _ | exact ns_arrayAt _ _ | exact ns_alloc _ _ _ | exact ns_box _ _ | exact ns_build _ _ | exact ns_buildSlice _ _ _ | exact ns_extract _ _ | exact ns_field _ _ _ | exact ns_index _ _ _ | exact ns_makeFunc _ _ _ | exact ns_makeMap _ _ | exact ns_makeSlice _ _ _ | exact ns_makeInterface _ _ | exact ns_intArith _ _ _ _ | exact ns_intDiv _ _ _ _ | exact ns_intBits _ _ _ _ | exact ns_intCmp _ _ _ | exact ns_shift _ _ _ _ _ | exact ns_stringOp _ _ _ | exact ns_unary _ _ | exact ns_lenOf _ | exact ns_firstCells _ _ _ | exact ns_copy _ _ _ | exact ns_len _ _ _ | exact ns_cap _ _ _ | exact ns_shape hl _ | exact ns_frozen hl _ | exact ns_freeze hl _ _ | exact ns_new1 hl _ | exact ns_set1 hl _ _ | exact ns_viewAt hl _ | refine NS.bind ?_ (fun _ => ?_) | refine ns_ite ?_ ?_) | split | dsimp only)
theorem ns_cellsIn (hl : l ≤ 1) (r : Nat) : NS l P (cellsIn r) := by
  unfold cellsIn
  repeat' (first | with_reducible (first | assumption | exact ns_pure _ | exact ns_map (ns_choose _) | exact ns_map (ns_choose _) | exact ns_stuck _ | exact ns_uns _ | exact ns_goPanic _ | exact ns_program | exact ns_load _ _ | exact ns_store _ _ _ | exact ns_choose _ | exact ns_getObj _ | exact ns_cells _ _ | exact ns_mapO _ _ | exact ns_setMap _ _ _ | exact ns_room _ | exact ns_newLoop _ | exact ns_newDef _ | exact ns_setLoop _ _ | exact ns_setDef _ _ | exact ns_typeInfo _ | exact ns_underlying _ | exact ns_zeroValue _ | exact ns_sizeOf _ | exact ns_isAgg _ | exact ns_loadCells _ _ | exact ns_storeCells _ _ _ | exact ns_loadVar _ _ | exact ns_storeVar _ _ _ | exact ns_newRow _ _ | exact ns_newVar _ _ | exact ns_elemOf _ | exact ns_part _ _ _ | exact ns_runtimePanic _ | exact ns_boundsPanic _ _ _ _ | exact ns_asIntOf _ | exact ns_asInt _ | exact ns_asBool _ | exact ns_asAgg _ | exact ns_asAddr _ | exact ns_sureAddr _ | exact ns_loadAt _ _ | exact ns_storeAt _ _ _ | exact ns_indexAt _ _ _ | exact ns_sliceBound _ _ _ | exact ns_sliceBounds _ _ _ _ _ _ | exact ns_slice _ _ _ _ _ | exact ns_sliceAt _ _ _ _ _ | exact ns_arrayAt _ _ | exact ns_alloc _ _ _ | exact ns_box _ _ | exact ns_build _ _ | exact ns_buildSlice _ _ _ | exact ns_extract _ _ | exact ns_field _ _ _ | exact ns_index _ _ _ | exact ns_makeFunc _ _ _ | exact ns_makeMap _ _ | exact ns_makeSlice _ _ _ | exact ns_makeInterface _ _ | exact ns_intArith _ _ _ _ | exact ns_intDiv _ _ _ _ | exact ns_intBits _ _ _ _ | exact ns_intCmp _ _ _ | exact ns_shift _ _ _ _ _ | exact ns_stringOp _ _ _ | exact ns_unary _ _ | exact ns_lenOf _ | exact ns_firstCells _ _ _ | exact ns_copy _ _ _ | exact ns_len _ _ _ | exact ns_cap _ _ _ | exact ns_shape hl _ | exact ns_frozen hl _ | exact ns_freeze hl _ _ | exact ns_new1 hl _ | exact ns_set1 hl _ _ | exact ns_viewAt hl _ | exact ns_numberAt hl _ | refine NS.bind ?_ (fun _ => ?_) | refine ns_ite ?_ ?_) | split | dsimp only)
theorem ns_asNumber (hl : l ≤ 1) (a : Addr) (b : Bool) : NS l P (asNumber a b) := by
  unfold asNumber
  repeat' (first | with_reducible (first | assumption | exact ns_pure _ | exact ns_map (ns_choose _) | exact ns_map (ns_choose _) | exact ns_stuck _ | exact ns_uns _ | exact ns_goPanic _ | exact ns_program | exact ns_load _ _ | exact ns_store _ _ _ | exact ns_choose _ | exact ns_getObj _ | exact ns_cells _ _ | exact ns_mapO _ _ | exact ns_setMap _ _ _ | exact ns_room _ | exact ns_newLoop _ | exact ns_newDef _ | exact ns_setLoop _ _ | exact ns_setDef _ _ | exact ns_typeInfo _ | exact ns_underlying _ | exact ns_zeroValue _ | exact ns_sizeOf _ | exact ns_isAgg _ | exact ns_loadCells _ _ | exact ns_storeCells _ _ _ | exact ns_loadVar _ _ | exact ns_storeVar _ _ _ | exact ns_newRow _ _ | exact ns_newVar _ _ | exact ns_elemOf _ | exact ns_part _ _ _ | exact ns_runtimePanic _ | exact ns_boundsPanic _ _ _ _ | exact ns_asIntOf _ | exact ns_asInt _ | exact ns_asBool _ | exact ns_asAgg _ | exact ns_asAddr _ | exact ns_sureAddr _ | exact ns_loadAt _ _ | exact ns_storeAt _ _ _ | exact ns_indexAt _ _ _ | exact ns_sliceBound _ _ _ | exact ns_sliceBounds _ _ _ _ _ _ | exact ns_slice _ _ _ _ _ | exact ns_sliceAt _ _ _ _ _ | exact ns_arrayAt _ _ | exact ns_alloc _ _ _ | exact ns_box _ _ | exact ns_build _ _ | exact ns_buildSlice _ _ _ | exact ns_extract _ _ | exact ns_field _ _ _ | exact ns_index _ _ _ | exact ns_makeFunc _ _ _ | exact ns_makeMap _ _ | exact ns_makeSlice _ _ _ | exact ns_makeInterface _ _ | exact ns_intArith _ _ _ _ | exact ns_intDiv _ _ _ _ | exact ns_intBits _ _ _ _ | exact ns_intCmp _ _ _ | exact ns_shift _ _ _ _ _ | exact ns_stringOp _ _ _ | exact ns_unary _ _ | exact ns_lenOf _ | exact ns_firstCells _ _ _ | exact ns_copy _ _ _ | exact ns_len _ _ _ | exact ns_cap _ _ _ | exact ns_shape hl _ | exact ns_frozen hl _ | exact ns_freeze hl _ _ | exact ns_new1 hl _ | exact ns_set1 hl _ _ | exact ns_viewAt hl _ | exact ns_numberAt hl _ | exact ns_cellsIn hl _ | refine NS.bind ?_ (fun _ => ?_) | refine ns_ite ?_ ?_) | split | dsimp only)
theorem ns_behind (hl : l ≤ 1) (r : Addr) : NS l P (behindNumber r) := by
  unfold behindNumber
  repeat' (first | with_reducible (first | assumption | exact ns_pure _ | exact ns_map (ns_choose _) | exact ns_map (ns_choose _) | exact ns_stuck _ | exact ns_uns _ | exact ns_goPanic _ | exact ns_program | exact ns_load _ _ | exact ns_store _ _ _ | exact ns_choose _ | exact ns_getObj _ | exact ns_cells _ _ | exact ns_mapO _ _ | exact ns_setMap _ _ _ | exact ns_room _ | exact ns_newLoop _ | exact ns_newDef _ | exact ns_setLoop _ _ | exact ns_setDef _ _ | exact ns_typeInfo _ | exact ns_underlying _ | exact ns_zeroValue _ | exact ns_sizeOf _ | exact ns_isAgg _ | exact ns_loadCells _ _ | exact ns_storeCells _ _ _ | exact ns_loadVar _ _ | exact ns_storeVar _ _ _ | exact ns_newRow _ _ | exact ns_newVar _ _ | exact ns_elemOf _ | exact ns_part _ _ _ | exact ns_runtimePanic _ | exact ns_boundsPanic _ _ _ _ | exact ns_asIntOf _ | exact ns_asInt _ | exact ns_asBool _ | exact ns_asAgg _ | exact ns_asAddr _ | exact ns_sureAddr _ | exact ns_loadAt _ _ | exact ns_storeAt _ _ _ | exact ns_indexAt _ _ _ | exact ns_sliceBound _ _ _ | exact ns_sliceBounds _ _ _ _ _ _ | exact ns_slice _ _ _ _ _ | exact ns_sliceAt _ _ _ _ _ | exact ns_arrayAt _ _ | exact ns_alloc _ _ _ | exact ns_box _ _ | exact ns_build _ _ | exact ns_buildSlice _ _ _ | exact ns_extract _ _ | exact ns_field _ _ _ | exact ns_index _ _ _ | exact ns_makeFunc _ _ _ | exact ns_makeMap _ _ | exact ns_makeSlice _ _ _ | exact ns_makeInterface _ _ | exact ns_intArith _ _ _ _ | exact ns_intDiv _ _ _ _ | exact ns_intBits _ _ _ _ | exact ns_intCmp _ _ _ | exact ns_shift _ _ _ _ _ | exact ns_stringOp _ _ _ | exact ns_unary _ _ | exact ns_lenOf _ | exact ns_firstCells _ _ _ | exact ns_copy _ _ _ | exact ns_len _ _ _ | exact ns_cap _ _ _ | exact ns_shape hl _ | exact ns_frozen hl _ | exact ns_freeze hl _ _ | exact ns_new1 hl _ | exact ns_set1 hl _ _ | exact ns_viewAt hl _ | exact ns_numberAt hl _ | exact ns_cellsIn hl _ | exact ns_asNumber hl _ _ | refine NS.bind ?_ (fun _ => ?_) | refine ns_ite ?_ ?_) | split | dsimp only)
theorem ns_noView (hl : l ≤ 1) (r : Addr) : NS l P (noView r) := by
  unfold noView
  repeat' (first | with_reducible (first | assumption | exact ns_pure _ | exact ns_map (ns_choose _) | exact ns_map (ns_choose _) | exact ns_stuck _ | exact ns_uns _ | exact ns_goPanic _ | exact ns_program | exact ns_load _ _ | exact ns_store _ _ _ | exact ns_choose _ | exact ns_getObj _ | exact ns_cells _ _ | exact ns_mapO _ _ | exact ns_setMap _ _ _ | exact ns_room _ | exact ns_newLoop _ | exact ns_newDef _ | exact ns_setLoop _ _ | exact ns_setDef _ _ | exact ns_typeInfo _ | exact ns_underlying _ | exact ns_zeroValue _ | exact ns_sizeOf _ | exact ns_isAgg _ | exact ns_loadCells _ _ | exact ns_storeCells _ _ _ | exact ns_loadVar _ _ | exact ns_storeVar _ _ _ | exact ns_newRow _ _ | exact ns_newVar _ _ | exact ns_elemOf _ | exact ns_part _ _ _ | exact ns_runtimePanic _ | exact ns_boundsPanic _ _ _ _ | exact ns_asIntOf _ | exact ns_asInt _ | exact ns_asBool _ | exact ns_asAgg _ | exact ns_asAddr _ | exact ns_sureAddr _ | exact ns_loadAt _ _ | exact ns_storeAt _ _ _ | exact ns_indexAt _ _ _ | exact ns_sliceBound _ _ _ | exact ns_sliceBounds _ _ _ _ _ _ | exact ns_slice _ _ _ _ _ | exact ns_sliceAt _ _ _ _ _ | exact ns_arrayAt _ _ | exact ns_alloc _ _ _ | exact ns_box _ _ | exact ns_build _ _ | exact ns_buildSlice _ _ _ | exact ns_extract _ _ | exact ns_field _ _ _ | exact ns_index _ _ _ | exact ns_makeFunc _ _ _ | exact ns_makeMap _ _ | exact ns_makeSlice _ _ _ | exact ns_makeInterface _ _ | exact ns_intArith _ _ _ _ | exact ns_intDiv _ _ _ _ | exact ns_intBits _ _ _ _ | exact ns_intCmp _ _ _ | exact ns_shift _ _ _ _ _ | exact ns_stringOp _ _ _ | exact ns_unary _ _ | exact ns_lenOf _ | exact ns_firstCells _ _ _ | exact ns_copy _ _ _ | exact ns_len _ _ _ | exact ns_cap _ _ _ | exact ns_shape hl _ | exact ns_frozen hl _ | exact ns_freeze hl _ _ | exact ns_new1 hl _ | exact ns_set1 hl _ _ | exact ns_viewAt hl _ | exact ns_numberAt hl _ | exact ns_cellsIn hl _ | exact ns_asNumber hl _ _ | exact ns_behind hl _ | refine NS.bind ?_ (fun _ => ?_) | refine ns_ite ?_ ?_) | split | dsimp only)
theorem ns_markS (hl : l ≤ 1) (r : Addr) : NS l P (markStringish r) := by
  unfold markStringish
  repeat' (first | with_reducible (first | assumption | exact ns_pure _ | exact ns_map (ns_choose _) | exact ns_map (ns_choose _) | exact ns_stuck _ | exact ns_uns _ | exact ns_goPanic _ | exact ns_program | exact ns_load _ _ | exact ns_store _ _ _ | exact ns_choose _ | exact ns_getObj _ | exact ns_cells _ _ | exact ns_mapO _ _ | exact ns_setMap _ _ _ | exact ns_room _ | exact ns_newLoop _ | exact ns_newDef _ | exact ns_setLoop _ _ | exact ns_setDef _ _ | exact ns_typeInfo _ | exact ns_underlying _ | exact ns_zeroValue _ | exact ns_sizeOf _ | exact ns_isAgg _ | exact ns_loadCells _ _ | exact ns_storeCells _ _ _ | exact ns_loadVar _ _ | exact ns_storeVar _ _ _ | exact ns_newRow _ _ | exact ns_newVar _ _ | exact ns_elemOf _ | exact ns_part _ _ _ | exact ns_runtimePanic _ | exact ns_boundsPanic _ _ _ _ | exact ns_asIntOf _ | exact ns_asInt _ | exact ns_asBool _ | exact ns_asAgg _ | exact ns_asAddr _ | exact ns_sureAddr _ | exact ns_loadAt _ _ | exact ns_storeAt _ _ _ | exact ns_indexAt _ _ _ | exact ns_sliceBound _ _ _ | exact ns_sliceBounds _ _ _ _ _ _ | exact ns_slice _ _ _ _ _ | exact ns_sliceAt _ _ _ _ _ | exact ns_arrayAt _ _ | exact ns_alloc _ _ _ | exact ns_box _ _ | exact ns_build _ _ | exact ns_buildSlice _ _ _ | exact ns_extract _ _ | exact ns_field _ _ _ | exact ns_index _ _ _ | exact ns_makeFunc _ _ _ | exact ns_makeMap _ _ | exact ns_makeSlice _ _ _ | exact ns_makeInterface _ _ | exact ns_intArith _ _ _ _ | exact ns_intDiv _ _ _ _ | exact ns_intBits _ _ _ _ | exact ns_intCmp _ _ _ | exact ns_shift _ _ _ _ _ | exact ns_stringOp _ _ _ | exact ns_unary _ _ | exact ns_lenOf _ | exact ns_firstCells _ _ _ | exact ns_copy _ _ _ | exact ns_len _ _ _ | exact ns_cap _ _ _ | exact ns_shape hl _ | exact ns_frozen hl _ | exact ns_freeze hl _ _ | exact ns_new1 hl _ | exact ns_set1 hl _ _ | exact ns_viewAt hl _ | exact ns_numberAt hl _ | exact ns_cellsIn hl _ | exact ns_asNumber hl _ _ | exact ns_behind hl _ | exact ns_noView hl _ | refine NS.bind ?_ (fun _ => ?_) | refine ns_ite ?_ ?_) | split | dsimp only)
theorem ns_stringish (hl : l ≤ 1) (r : Addr) : NS l P (stringish r) := by
  unfold stringish
  repeat' (first | with_reducible (first | assumption | exact ns_pure _ | exact ns_map (ns_choose _) | exact ns_map (ns_choose _) | exact ns_stuck _ | exact ns_uns _ | exact ns_goPanic _ | exact ns_program | exact ns_load _ _ | exact ns_store _ _ _ | exact ns_choose _ | exact ns_getObj _ | exact ns_cells _ _ | exact ns_mapO _ _ | exact ns_setMap _ _ _ | exact ns_room _ | exact ns_newLoop _ | exact ns_newDef _ | exact ns_setLoop _ _ | exact ns_setDef _ _ | exact ns_typeInfo _ | exact ns_underlying _ | exact ns_zeroValue _ | exact ns_sizeOf _ | exact ns_isAgg _ | exact ns_loadCells _ _ | exact ns_storeCells _ _ _ | exact ns_loadVar _ _ | exact ns_storeVar _ _ _ | exact ns_newRow _ _ | exact ns_newVar _ _ | exact ns_elemOf _ | exact ns_part _ _ _ | exact ns_runtimePanic _ | exact ns_boundsPanic _ _ _ _ | exact ns_asIntOf _ | exact ns_asInt _ | exact ns_asBool _ | exact ns_asAgg _ | exact ns_asAddr _ | exact ns_sureAddr _ | exact ns_loadAt _ _ | exact ns_storeAt _ _ _ | exact ns_indexAt _ _ _ | exact ns_sliceBound _ _ _ | exact ns_sliceBounds _ _ _ _ _ _ | exact ns_slice _ _ _ _ _ | exact ns_sliceAt _ _ _ _ _ | exact ns_arrayAt _ _ | exact ns_alloc _ _ _ | exact ns_box _ _ | exact ns_build _ _ | exact ns_buildSlice _ _ _ | exact ns_extract _ _ | exact ns_field _ _ _ | exact ns_index _ _ _ | exact ns_makeFunc _ _ _ | exact ns_makeMap _ _ | exact ns_makeSlice _ _ _ | exact ns_makeInterface _ _ | exact ns_intArith _ _ _ _ | exact ns_intDiv _ _ _ _ | exact ns_intBits _ _ _ _ | exact ns_intCmp _ _ _ | exact ns_shift _ _ _ _ _ | exact ns_stringOp _ _ _ | exact ns_unary _ _ | exact ns_lenOf _ | exact ns_firstCells _ _ _ | exact ns_copy _ _ _ | exact ns_len _ _ _ | exact ns_cap _ _ _ | exact ns_shape hl _ | exact ns_frozen hl _ | exact ns_freeze hl _ _ | exact ns_new1 hl _ | exact ns_set1 hl _ _ | exact ns_viewAt hl _ | exact ns_numberAt hl _ | exact ns_cellsIn hl _ | exact ns_asNumber hl _ _ | exact ns_behind hl _ | exact ns_noView hl _ | exact ns_markS hl _ | refine NS.bind ?_ (fun _ => ?_) | refine ns_ite ?_ ?_) | split | dsimp only)
theorem ns_mayBeOne (hl : l ≤ 1) (a b : Addr) : NS l P (mayBeOne a b) := by
  unfold mayBeOne
  repeat' (first | with_reducible (first | assumption | exact ns_pure _ | exact ns_map (ns_choose _) | exact ns_map (ns_choose _) | exact ns_stuck _ | exact ns_uns _ | exact ns_goPanic _ | exact ns_program | exact ns_load _ _ | exact ns_store _ _ _ | exact ns_choose _ | exact ns_getObj _ | exact ns_cells _ _ | exact ns_mapO _ _ | exact ns_setMap _ _ _ | exact ns_room _ | exact ns_newLoop _ | exact ns_newDef _ | exact ns_setLoop _ _ | exact ns_setDef _ _ | exact ns_typeInfo _ | exact ns_underlying _ | exact ns_zeroValue _ | exact ns_sizeOf _ | exact ns_isAgg _ | exact ns_loadCells _ _ | exact ns_storeCells _ _ _ | exact ns_loadVar _ _ | exact ns_storeVar _ _ _ | exact ns_newRow _ _ | exact ns_newVar _ _ | exact ns_elemOf _ | exact ns_part _ _ _ | exact ns_runtimePanic _ | exact ns_boundsPanic _ _ _ _ | exact ns_asIntOf _ | exact ns_asInt _ | exact ns_asBool _ | exact ns_asAgg _ | exact ns_asAddr _ | exact ns_sureAddr _ | exact ns_loadAt _ _ | exact ns_storeAt _ _ _ | exact ns_indexAt _ _ _ | exact ns_sliceBound _ _ _ | exact ns_sliceBounds _ _ _ _ _ _ | exact ns_slice _ _ _ _ _ | exact ns_sliceAt _ _ _ _ _ | exact ns_arrayAt _ _ | exact ns_alloc _ _ _ | exact ns_box _ _ | exact ns_build _ _ | exact ns_buildSlice _ _ _ | exact ns_extract _ _ | exact ns_field _ _ _ | exact ns_index _ _ _ | exact ns_makeFunc _ _ _ | exact ns_makeMap _ _ | exact ns_makeSlice _ _ _ | exact ns_makeInterface _ _ | exact ns_intArith _ _ _ _ | exact ns_intDiv _ _ _ _ | exact ns_intBits _ _ _ _ | exact ns_intCmp _ _ _ | exact ns_shift _ _ _ _ _ | exact ns_stringOp _ _ _ | exact ns_unary _ _ | exact ns_lenOf _ | exact ns_firstCells _ _ _ | exact ns_copy _ _ _ | exact ns_len _ _ _ | exact ns_cap _ _ _ | exact ns_shape hl _ | exact ns_frozen hl _ | exact ns_freeze hl _ _ | exact ns_new1 hl _ | exact ns_set1 hl _ _ | exact ns_viewAt hl _ | exact ns_numberAt hl _ | exact ns_cellsIn hl _ | exact ns_asNumber hl _ _ | exact ns_behind hl _ | exact ns_noView hl _ | exact ns_markS hl _ | exact ns_stringish hl _ | refine NS.bind ?_ (fun _ => ?_) | refine ns_ite ?_ ?_) | split | dsimp only)
theorem ns_sameAddr (hl : l ≤ 1) (a b : Addr) : NS l P (sameAddr a b) := by
  unfold sameAddr
  repeat' (first | with_reducible (first | assumption | exact ns_pure _ | exact ns_map (ns_choose _) | exact ns_map (ns_choose _) | exact ns_stuck _ | exact ns_uns _ | exact ns_goPanic _ | exact ns_program | exact ns_load _ _ | exact ns_store _ _ _ | exact ns_choose _ | exact ns_getObj _ | exact ns_cells _ _ | exact ns_mapO _ _ | exact ns_setMap _ _ _ | exact ns_room _ | exact ns_newLoop _ | exact ns_newDef _ | exact ns_setLoop _ _ | exact ns_setDef _ _ | exact ns_typeInfo _ | exact ns_underlying _ | exact ns_zeroValue _ | exact ns_sizeOf _ | exact ns_isAgg _ | exact ns_loadCells _ _ | exact ns_storeCells _ _ _ | exact ns_loadVar _ _ | exact ns_storeVar _ _ _ | exact ns_newRow _ _ | exact ns_newVar _ _ | exact ns_elemOf _ | exact ns_part _ _ _ | exact ns_runtimePanic _ | exact ns_boundsPanic _ _ _ _ | exact ns_asIntOf _ | exact ns_asInt _ | exact ns_asBool _ | exact ns_asAgg _ | exact ns_asAddr _ | exact ns_sureAddr _ | exact ns_loadAt _ _ | exact ns_storeAt _ _ _ | exact ns_indexAt _ _ _ | exact ns_sliceBound _ _ _ | exact ns_sliceBounds _ _ _ _ _ _ | exact ns_slice _ _ _ _ _ | exact ns_sliceAt _ _ _ _ _ | exact ns_arrayAt _ _ | exact ns_alloc _ _ _ | exact ns_box _ _ | exact ns_build _ _ | exact ns_buildSlice _ _ _ | exact ns_extract _ _ | exact ns_field _ _ _ | exact ns_index _ _ _ | exact ns_makeFunc _ _ _ | exact ns_makeMap _ _ | exact ns_makeSlice _ _ _ | exact ns_makeInterface _ _ | exact ns_intArith _ _ _ _ | exact ns_intDiv _ _ _ _ | exact ns_intBits _ _ _ _ | exact ns_intCmp _ _ _ | exact ns_shift _ _ _ _ _ | exact ns_stringOp _ _ _ | exact ns_unary _ _ | exact ns_lenOf _ | exact ns_firstCells _ _ _ | exact ns_copy _ _ _ | exact ns_len _ _ _ | exact ns_cap _ _ _ | exact ns_shape hl _ | exact ns_frozen hl _ | exact ns_freeze hl _ _ | exact ns_new1 hl _ | exact ns_set1 hl _ _ | exact ns_viewAt hl _ | exact ns_numberAt hl _ | exact ns_cellsIn hl _ | exact ns_asNumber hl _ _ | exact ns_behind hl _ | exact ns_noView hl _ | exact ns_markS hl _ | exact ns_stringish hl _ | exact ns_mayBeOne hl _ _ | refine NS.bind ?_ (fun _ => ?_) | refine ns_ite ?_ ?_) | split | dsimp only)
theorem ns_samePointer (hl : l ≤ 1) (a b : Option Addr) : NS l P (samePointer a b) := by
  unfold samePointer
  repeat' (first | with_reducible (first | assumption | exact ns_pure _ | exact ns_map (ns_choose _) | exact ns_map (ns_choose _) | exact ns_stuck _ | exact ns_uns _ | exact ns_goPanic _ | exact ns_program | exact ns_load _ _ | exact ns_store _ _ _ | exact ns_choose _ | exact ns_getObj _ | exact ns_cells _ _ | exact ns_mapO _ _ | exact ns_setMap _ _ _ | exact ns_room _ | exact ns_newLoop _ | exact ns_newDef _ | exact ns_setLoop _ _ | exact ns_setDef _ _ | exact ns_typeInfo _ | exact ns_underlying _ | exact ns_zeroValue _ | exact ns_sizeOf _ | exact ns_isAgg _ | exact ns_loadCells _ _ | exact ns_storeCells _ _ _ | exact ns_loadVar _ _ | exact ns_storeVar _ _ _ | exact ns_newRow _ _ | exact ns_newVar _ _ | exact ns_elemOf _ | exact ns_part _ _ _ | exact ns_runtimePanic _ | exact ns_boundsPanic _ _ _ _ | exact ns_asIntOf _ | exact ns_asInt _ | exact ns_asBool _ | exact ns_asAgg _ | exact ns_asAddr _ | exact ns_sureAddr _ | exact ns_loadAt _ _ | exact ns_storeAt _ _ _ | exact ns_indexAt _ _ _ | exact ns_sliceBound _ _ _ | exact ns_sliceBounds _ _ _ _ _ _ | exact ns_slice _ _ _ _ _ | exact ns_sliceAt _ _ _ _ _ | exact ns_arrayAt _ _ | exact ns_alloc _ _ _ | exact ns_box _ _ | exact ns_build _ _ | exact ns_buildSlice _ _ _ | exact ns_extract _ _ | exact ns_field _ _ _ | exact ns_index _ _ _ | exact ns_makeFunc _ _ _ | exact ns_makeMap _ _ | exact ns_makeSlice _ _ _ | exact ns_makeInterface _ _ | exact ns_intArith _ _ _ _ | exact ns_intDiv _ _ _ _ | exact ns_intBits _ _ _ _ | exact ns_intCmp _ _ _ | exact ns_shift _ _ _ _ _ | exact ns_stringOp _ _ _ | exact ns_unary _ _ | exact ns_lenOf _ | exact ns_firstCells _ _ _ | exact ns_copy _ _ _ | exact ns_len _ _ _ | exact ns_cap _ _ _ | exact ns_shape hl _ | exact ns_frozen hl _ | exact ns_freeze hl _ _ | exact ns_new1 hl _ | exact ns_set1 hl _ _ | exact ns_viewAt hl _ | exact ns_numberAt hl _ | exact ns_cellsIn hl _ | exact ns_asNumber hl _ _ | exact ns_behind hl _ | exact ns_noView hl _ | exact ns_markS hl _ | exact ns_stringish hl _ | exact ns_mayBeOne hl _ _ | exact ns_sameAddr hl _ _ | refine NS.bind ?_ (fun _ => ?_) | refine ns_ite ?_ ?_) | split | dsimp only)
theorem ns_holdsCells (hl : l ≤ 1) (a : Addr) (n : Nat) : NS l P (Builtin.holdsCells a n) := by
  unfold Builtin.holdsCells
  repeat' (first | with_reducible (first | assumption | exact ns_pure _ | exact ns_map (ns_choose _) | exact ns_map (ns_choose _) | exact ns_stuck _ | exact ns_uns _ | exact ns_goPanic _ | exact ns_program | exact ns_load _ _ | exact ns_store _ _ _ | exact ns_choose _ | exact ns_getObj _ | exact ns_cells _ _ | exact ns_mapO _ _ | exact ns_setMap _ _ _ | exact ns_room _ | exact ns_newLoop _ | exact ns_newDef _ | exact ns_setLoop _ _ | exact ns_setDef _ _ | exact ns_typeInfo _ | exact ns_underlying _ | exact ns_zeroValue _ | exact ns_sizeOf _ | exact ns_isAgg _ | exact ns_loadCells _ _ | exact ns_storeCells _ _ _ | exact ns_loadVar _ _ | exact ns_storeVar _ _ _ | exact ns_newRow _ _ | exact ns_newVar _ _ | exact ns_elemOf _ | exact ns_part _ _ _ | exact ns_runtimePanic _ | exact ns_boundsPanic _ _ _ _ | exact ns_asIntOf _ | exact ns_asInt _ | exact ns_asBool _ | exact ns_asAgg _ | exact ns_asAddr _ | exact ns_sureAddr _ | exact ns_loadAt _ _ | exact ns_storeAt _ _ _ | exact ns_indexAt _ _ _ | exact ns_sliceBound _ _ _ | exact ns_sliceBounds _ _ _ _ _ _ | exact ns_slice _ _ _ _ _ | exact ns_sliceAt _ _ _ _ _ | exact ns_arrayAt _ _ | exact ns_alloc _ _ _ | exact ns_box _ _ | exact ns_build _ _ | exact ns_buildSlice _ _ _ | exact ns_extract _ _ | exact ns_field _ _ _ | exact ns_index _ _ _ | exact ns_makeFunc _ _ _ | exact ns_makeMap _ _ | exact ns_makeSlice _ _ _ | exact ns_makeInterface _ _ | exact ns_intArith _ _ _ _ | exact ns_intDiv _ _ _ _ | exact ns_intBits _ _ _ _ | exact ns_intCmp _ _ _ | exact ns_shift _ _ _ _ _ | exact ns_stringOp _ _ _ | exact ns_unary _ _ | exact ns_lenOf _ | exact ns_firstCells _ _ _ | exact ns_copy _ _ _ | exact ns_len _ _ _ | exact ns_cap _ _ _ | exact ns_shape hl _ | exact ns_frozen hl _ | exact ns_freeze hl _ _ | exact ns_new1 hl _ | exact ns_set1 hl _ _ | exact ns_viewAt hl _ | exact ns_numberAt hl _ | exact ns_cellsIn hl _ | exact ns_asNumber hl _ _ | exact ns_behind hl _ | exact ns_noView hl _ | exact ns_markS hl _ | exact ns_stringish hl _ | exact ns_mayBeOne hl _ _ | exact ns_sameAddr hl _ _ | exact ns_samePointer hl _ _ | refine NS.bind ?_ (fun _ => ?_) | refine ns_ite ?_ ?_) | split | dsimp only)
theorem ns_mayShare (hl : l ≤ 1) (a b c : Nat) (x : Option Addr) (v : Value) : NS l P (Builtin.mayShare a b c x v) := by
  unfold Builtin.mayShare
  repeat' (first | with_reducible (first | assumption | exact ns_pure _ | exact ns_map (ns_choose _) | exact ns_map (ns_choose _) | exact ns_stuck _ | exact ns_uns _ | exact ns_goPanic _ | exact ns_program | exact ns_load _ _ | exact ns_store _ _ _ | exact ns_choose _ | exact ns_getObj _ | exact ns_cells _ _ | exact ns_mapO _ _ | exact ns_setMap _ _ _ | exact ns_room _ | exact ns_newLoop _ | exact ns_newDef _ | exact ns_setLoop _ _ | exact ns_setDef _ _ | exact ns_typeInfo _ | exact ns_underlying _ | exact ns_zeroValue _ | exact ns_sizeOf _ | exact ns_isAgg _ | exact ns_loadCells _ _ | exact ns_storeCells _ _ _ | exact ns_loadVar _ _ | exact ns_storeVar _ _ _ | exact ns_newRow _ _ | exact ns_newVar _ _ | exact ns_elemOf _ | exact ns_part _ _ _ | exact ns_runtimePanic _ | exact ns_boundsPanic _ _ _ _ | exact ns_asIntOf _ | exact ns_asInt _ | exact ns_asBool _ | exact ns_asAgg _ | exact ns_asAddr _ | exact ns_sureAddr _ | exact ns_loadAt _ _ | exact ns_storeAt _ _ _ | exact ns_indexAt _ _ _ | exact ns_sliceBound _ _ _ | exact ns_sliceBounds _ _ _ _ _ _ | exact ns_slice _ _ _ _ _ | exact ns_sliceAt _ _ _ _ _ | exact ns_arrayAt _ _ | exact ns_alloc _ _ _ | exact ns_box _ _ | exact ns_build _ _ | exact ns_buildSlice _ _ _ | exact ns_extract _ _ | exact ns_field _ _ _ | exact ns_index _ _ _ | exact ns_makeFunc _ _ _ | exact ns_makeMap _ _ | exact ns_makeSlice _ _ _ | exact ns_makeInterface _ _ | exact ns_intArith _ _ _ _ | exact ns_intDiv _ _ _ _ | exact ns_intBits _ _ _ _ | exact ns_intCmp _ _ _ | exact ns_shift _ _ _ _ _ | exact ns_stringOp _ _ _ | exact ns_unary _ _ | exact ns_lenOf _ | exact ns_firstCells _ _ _ | exact ns_copy _ _ _ | exact ns_len _ _ _ | exact ns_cap _ _ _ | exact ns_shape hl _ | exact ns_frozen hl _ | exact ns_freeze hl _ _ | exact ns_new1 hl _ | exact ns_set1 hl _ _ | exact ns_viewAt hl _ | exact ns_numberAt hl _ | exact ns_cellsIn hl _ | exact ns_asNumber hl _ _ | exact ns_behind hl _ | exact ns_noView hl _ | exact ns_markS hl _ | exact ns_stringish hl _ | exact ns_mayBeOne hl _ _ | exact ns_sameAddr hl _ _ | exact ns_samePointer hl _ _ | exact ns_holdsCells hl _ _ | refine NS.bind ?_ (fun _ => ?_) | refine ns_ite ?_ ?_) | split | dsimp only)
def Asks {α : Type} : Sem α → Prop
  | .pure _ => True
  | .shape _ k => ∀ s, Asks (k s)
  | .frozen _ k => ∀ b, Asks (k b)
  | _ => False
theorem Asks.bind {α β : Type} {f : α → Sem β} (hf : ∀ a, Asks (f a)) : ∀ {s : Sem α}, Asks s → Asks (s >>= f) := by
  intro s
  induction s with
  | pure a => exact fun _ => hf a
  | shape r k ih => exact fun h n => ih n (h n)
  | frozen a k ih => exact fun h n => ih n (h n)
  | _ => exact fun h => h.elim
theorem Asks.dead {α β : Type} {f : α → Sem β} (hf : ∀ a, Dead P (f a)) : ∀ {s : Sem α}, Asks s → Dead P (s >>= f) := by
  intro s
  induction s with
  | pure a => exact fun _ => hf a
  | shape r k ih => exact fun h n => ih n (h n)
  | frozen a k ih => exact fun h n => ih n (h n)
  | _ => exact fun h => h.elim
theorem Asks.ns {α β : Type} {f : α → Sem β} (hd : ∀ a, Dead P (f a)) (hf : ∀ a, NS l P (f a)) : ∀ {s : Sem α}, Asks s → NS l P (s >>= f) := by
  intro s
  induction s with
  | pure a => exact fun _ => hf a
  | shape r k ih => exact fun h => ⟨.inr fun n => Asks.dead hd (h n), fun n => ih n (h n)⟩
  | frozen a k ih => exact fun h => ⟨.inr fun n => Asks.dead hd (h n), fun n => ih n (h n)⟩
  | _ => exact fun h => h.elim
theorem dead_ite {α : Type} {c : Prop} [Decidable c] {x y : Sem α} (hx : Dead P x) (hy : Dead P y) : Dead P (if c then x else y) := by split <;> assumption
theorem asks_holds (a : Addr) (n : Nat) : Asks (Builtin.holdsCells a n) := by
  intro s
  cases s with
  | none => trivial
  | some x => trivial
theorem asks_frozen (a : Addr) : Asks (frozen a) := fun _ => trivial
theorem asks_pure {α : Type} (a : α) : Asks (pure a : Sem α) := trivial
theorem asks_may (sz a n : Nat) (b : Option Addr) (x : Value) : Asks (Builtin.mayShare sz a n b x) := by
  unfold Builtin.mayShare
  repeat' (first | exact asks_pure _ | exact asks_frozen _ | exact asks_holds _ _ | refine Asks.bind (fun _ => ?_) ?_ | split | dsimp only)
theorem ns_mayTail {α : Type} {sz a n : Nat} {b : Option Addr} {x : Value} {u : Unsupported} : NS l P (Builtin.mayShare sz a n b x >>= fun s => if (!s) = true then (mark .noRoom >>= fun _ => (unsupported u : Sem α)) else unsupported u) :=
  Asks.ns (f := fun s => if (!s) = true then (mark .noRoom >>= fun _ => (unsupported u : Sem α)) else unsupported u) (fun _ => dead_ite trivial trivial) (fun _ => ns_ite (NS.bind (ns_mark _ rfl) fun _ => ns_uns _) (ns_uns _)) (asks_may _ _ _ _ _)
set_option maxHeartbeats 4000000 in
theorem ns_append (a : Array TypeId) (t : TypeId) (v : Array Value) : NS l P (Builtin.append_ a t v) := by
  unfold Builtin.append_
  repeat' (first | with_reducible (first | assumption | exact ns_mark _ rfl | exact ns_mayTail | exact ns_pure _ | exact ns_map (ns_choose _) | exact ns_map (ns_choose _) | exact ns_stuck _ | exact ns_uns _ | exact ns_goPanic _ | exact ns_program | exact ns_load _ _ | exact ns_store _ _ _ | exact ns_choose _ | exact ns_getObj _ | exact ns_cells _ _ | exact ns_mapO _ _ | exact ns_setMap _ _ _ | exact ns_room _ | exact ns_newLoop _ | exact ns_newDef _ | exact ns_setLoop _ _ | exact ns_setDef _ _ | exact ns_typeInfo _ | exact ns_underlying _ | exact ns_zeroValue _ | exact ns_sizeOf _ | exact ns_isAgg _ | exact ns_loadCells _ _ | exact ns_storeCells _ _ _ | exact ns_loadVar _ _ | exact ns_storeVar _ _ _ | exact ns_newRow _ _ | exact ns_newVar _ _ | exact ns_elemOf _ | exact ns_part _ _ _ | exact ns_runtimePanic _ | exact ns_boundsPanic _ _ _ _ | exact ns_asIntOf _ | exact ns_asInt _ | exact ns_asBool _ | exact ns_asAgg _ | exact ns_asAddr _ | exact ns_sureAddr _ | exact ns_loadAt _ _ | exact ns_storeAt _ _ _ | exact ns_indexAt _ _ _ | exact ns_sliceBound _ _ _ | exact ns_sliceBounds _ _ _ _ _ _ | exact ns_slice _ _ _ _ _ | exact ns_sliceAt _ _ _ _ _ | exact ns_arrayAt _ _ | exact ns_alloc _ _ _ | exact ns_box _ _ | exact ns_build _ _ | exact ns_buildSlice _ _ _ | exact ns_extract _ _ | exact ns_field _ _ _ | exact ns_index _ _ _ | exact ns_makeFunc _ _ _ | exact ns_makeMap _ _ | exact ns_makeSlice _ _ _ | exact ns_makeInterface _ _ | exact ns_intArith _ _ _ _ | exact ns_intDiv _ _ _ _ | exact ns_intBits _ _ _ _ | exact ns_intCmp _ _ _ | exact ns_shift _ _ _ _ _ | exact ns_stringOp _ _ _ | exact ns_unary _ _ | exact ns_lenOf _ | exact ns_firstCells _ _ _ | exact ns_copy _ _ _ | exact ns_len _ _ _ | exact ns_cap _ _ _ | exact ns_shape hl _ | exact ns_frozen hl _ | exact ns_freeze hl _ _ | exact ns_new1 hl _ | exact ns_set1 hl _ _ | exact ns_viewAt hl _ | exact ns_numberAt hl _ | exact ns_cellsIn hl _ | exact ns_asNumber hl _ _ | exact ns_behind hl _ | exact ns_noView hl _ | exact ns_markS hl _ | exact ns_stringish hl _ | exact ns_mayBeOne hl _ _ | exact ns_sameAddr hl _ _ | exact ns_samePointer hl _ _ | exact ns_holdsCells hl _ _ | exact ns_mayShare hl _ _ _ _ _ | refine NS.bind ?_ (fun _ => ?_) | refine ns_ite ?_ ?_) | split | dsimp only)
theorem ns_typeStr (_hl : l ≤ 1) (t : TypeId) : NS l P (typeStr t) := by
  unfold typeStr
  repeat' (first | with_reducible (first | assumption | exact ns_pure _ | exact ns_map (ns_choose _) | exact ns_map (ns_choose _) | exact ns_stuck _ | exact ns_uns _ | exact ns_goPanic _ | exact ns_program | exact ns_load _ _ | exact ns_store _ _ _ | exact ns_choose _ | exact ns_getObj _ | exact ns_cells _ _ | exact ns_mapO _ _ | exact ns_setMap _ _ _ | exact ns_room _ | exact ns_newLoop _ | exact ns_newDef _ | exact ns_setLoop _ _ | exact ns_setDef _ _ | exact ns_typeInfo _ | exact ns_underlying _ | exact ns_zeroValue _ | exact ns_sizeOf _ | exact ns_isAgg _ | exact ns_loadCells _ _ | exact ns_storeCells _ _ _ | exact ns_loadVar _ _ | exact ns_storeVar _ _ _ | exact ns_newRow _ _ | exact ns_newVar _ _ | exact ns_elemOf _ | exact ns_part _ _ _ | exact ns_runtimePanic _ | exact ns_boundsPanic _ _ _ _ | exact ns_asIntOf _ | exact ns_asInt _ | exact ns_asBool _ | exact ns_asAgg _ | exact ns_asAddr _ | exact ns_sureAddr _ | exact ns_loadAt _ _ | exact ns_storeAt _ _ _ | exact ns_indexAt _ _ _ | exact ns_sliceBound _ _ _ | exact ns_sliceBounds _ _ _ _ _ _ | exact ns_slice _ _ _ _ _ | exact ns_sliceAt _ _ _ _ _ | exact ns_arrayAt _ _ | exact ns_alloc _ _ _ | exact ns_box _ _ | exact ns_build _ _ | exact ns_buildSlice _ _ _ | exact ns_extract _ _ | exact ns_field _ _ _ | exact ns_index _ _ _ | exact ns_makeFunc _ _ _ | exact ns_makeMap _ _ | exact ns_makeSlice _ _ _ | exact ns_makeInterface _ _ | exact ns_intArith _ _ _ _ | exact ns_intDiv _ _ _ _ | exact ns_intBits _ _ _ _ | exact ns_intCmp _ _ _ | exact ns_shift _ _ _ _ _ | exact ns_stringOp _ _ _ | exact ns_unary _ _ | exact ns_lenOf _ | exact ns_firstCells _ _ _ | exact ns_copy _ _ _ | exact ns_len _ _ _ | exact ns_cap _ _ _ | exact ns_shape hl _ | exact ns_frozen hl _ | exact ns_freeze hl _ _ | exact ns_new1 hl _ | exact ns_set1 hl _ _ | exact ns_viewAt hl _ | exact ns_numberAt hl _ | exact ns_cellsIn hl _ | exact ns_asNumber hl _ _ | exact ns_behind hl _ | exact ns_noView hl _ | exact ns_markS hl _ | exact ns_stringish hl _ | exact ns_mayBeOne hl _ _ | exact ns_sameAddr hl _ _ | exact ns_samePointer hl _ _ | exact ns_holdsCells hl _ _ | exact ns_mayShare hl _ _ _ _ _ | exact ns_append _ _ _ | refine NS.bind ?_ (fun _ => ?_) | refine ns_ite ?_ ?_) | split | dsimp only)
theorem ns_byteOf (hl : l ≤ 1) (a : Addr) : NS l P (byteOf a) := by
  unfold byteOf
  repeat' (first | with_reducible (first | assumption | exact ns_pure _ | exact ns_map (ns_choose _) | exact ns_map (ns_choose _) | exact ns_stuck _ | exact ns_uns _ | exact ns_goPanic _ | exact ns_program | exact ns_load _ _ | exact ns_store _ _ _ | exact ns_choose _ | exact ns_getObj _ | exact ns_cells _ _ | exact ns_mapO _ _ | exact ns_setMap _ _ _ | exact ns_room _ | exact ns_newLoop _ | exact ns_newDef _ | exact ns_setLoop _ _ | exact ns_setDef _ _ | exact ns_typeInfo _ | exact ns_underlying _ | exact ns_zeroValue _ | exact ns_sizeOf _ | exact ns_isAgg _ | exact ns_loadCells _ _ | exact ns_storeCells _ _ _ | exact ns_loadVar _ _ | exact ns_storeVar _ _ _ | exact ns_newRow _ _ | exact ns_newVar _ _ | exact ns_elemOf _ | exact ns_part _ _ _ | exact ns_runtimePanic _ | exact ns_boundsPanic _ _ _ _ | exact ns_asIntOf _ | exact ns_asInt _ | exact ns_asBool _ | exact ns_asAgg _ | exact ns_asAddr _ | exact ns_sureAddr _ | exact ns_loadAt _ _ | exact ns_storeAt _ _ _ | exact ns_indexAt _ _ _ | exact ns_sliceBound _ _ _ | exact ns_sliceBounds _ _ _ _ _ _ | exact ns_slice _ _ _ _ _ | exact ns_sliceAt _ _ _ _ _ | exact ns_arrayAt _ _ | exact ns_alloc _ _ _ | exact ns_box _ _ | exact ns_build _ _ | exact ns_buildSlice _ _ _ | exact ns_extract _ _ | exact ns_field _ _ _ | exact ns_index _ _ _ | exact ns_makeFunc _ _ _ | exact ns_makeMap _ _ | exact ns_makeSlice _ _ _ | exact ns_makeInterface _ _ | exact ns_intArith _ _ _ _ | exact ns_intDiv _ _ _ _ | exact ns_intBits _ _ _ _ | exact ns_intCmp _ _ _ | exact ns_shift _ _ _ _ _ | exact ns_stringOp _ _ _ | exact ns_unary _ _ | exact ns_lenOf _ | exact ns_firstCells _ _ _ | exact ns_copy _ _ _ | exact ns_len _ _ _ | exact ns_cap _ _ _ | exact ns_shape hl _ | exact ns_frozen hl _ | exact ns_freeze hl _ _ | exact ns_new1 hl _ | exact ns_set1 hl _ _ | exact ns_viewAt hl _ | exact ns_numberAt hl _ | exact ns_cellsIn hl _ | exact ns_asNumber hl _ _ | exact ns_behind hl _ | exact ns_noView hl _ | exact ns_markS hl _ | exact ns_stringish hl _ | exact ns_mayBeOne hl _ _ | exact ns_sameAddr hl _ _ | exact ns_samePointer hl _ _ | exact ns_holdsCells hl _ _ | exact ns_mayShare hl _ _ _ _ _ | exact ns_append _ _ _ | exact ns_typeStr hl _ | refine NS.bind ?_ (fun _ => ?_) | refine ns_ite ?_ ?_) | split | dsimp only)
theorem ns_equalIn (hl : l ≤ 1) : ∀ (d : Nat) (t : TypeId) (x y : Value), NS l P (Op.equalIn d t x y)
  | 0, _, _, _ => trivial
  | d + 1, t, x, y => by
    have ih := ns_equalIn hl d
    unfold Op.equalIn
    repeat' (first | with_reducible (first | assumption | exact ih _ _ _ | refine NS.bind (ns_forIn fun _ _ => ?_) (fun _ => ?_) | refine NS.bind (ns_forR fun _ _ => ?_) (fun _ => ?_) | exact ns_pure _ | exact ns_map (ns_choose _) | exact ns_map (ns_choose _) | exact ns_stuck _ | exact ns_uns _ | exact ns_goPanic _ | exact ns_program | exact ns_load _ _ | exact ns_store _ _ _ | exact ns_choose _ | exact ns_getObj _ | exact ns_cells _ _ | exact ns_mapO _ _ | exact ns_setMap _ _ _ | exact ns_room _ | exact ns_newLoop _ | exact ns_newDef _ | exact ns_setLoop _ _ | exact ns_setDef _ _ | exact ns_typeInfo _ | exact ns_underlying _ | exact ns_zeroValue _ | exact ns_sizeOf _ | exact ns_isAgg _ | exact ns_loadCells _ _ | exact ns_storeCells _ _ _ | exact ns_loadVar _ _ | exact ns_storeVar _ _ _ | exact ns_newRow _ _ | exact ns_newVar _ _ | exact ns_elemOf _ | exact ns_part _ _ _ | exact ns_runtimePanic _ | exact ns_boundsPanic _ _ _ _ | exact ns_asIntOf _ | exact ns_asInt _ | exact ns_asBool _ | exact ns_asAgg _ | exact ns_asAddr _ | exact ns_sureAddr _ | exact ns_loadAt _ _ | exact ns_storeAt _ _ _ | exact ns_indexAt _ _ _ | exact ns_sliceBound _ _ _ | exact ns_sliceBounds _ _ _ _ _ _ | exact ns_slice _ _ _ _ _ | exact ns_sliceAt _ _ _ _ _ | exact ns_arrayAt _ _ | exact ns_alloc _ _ _ | exact ns_box _ _ | exact ns_build _ _ | exact ns_buildSlice _ _ _ | exact ns_extract _ _ | exact ns_field _ _ _ | exact ns_index _ _ _ | exact ns_makeFunc _ _ _ | exact ns_makeMap _ _ | exact ns_makeSlice _ _ _ | exact ns_makeInterface _ _ | exact ns_intArith _ _ _ _ | exact ns_intDiv _ _ _ _ | exact ns_intBits _ _ _ _ | exact ns_intCmp _ _ _ | exact ns_shift _ _ _ _ _ | exact ns_stringOp _ _ _ | exact ns_unary _ _ | exact ns_lenOf _ | exact ns_firstCells _ _ _ | exact ns_copy _ _ _ | exact ns_len _ _ _ | exact ns_cap _ _ _ | exact ns_shape hl _ | exact ns_frozen hl _ | exact ns_freeze hl _ _ | exact ns_new1 hl _ | exact ns_set1 hl _ _ | exact ns_viewAt hl _ | exact ns_numberAt hl _ | exact ns_cellsIn hl _ | exact ns_asNumber hl _ _ | exact ns_behind hl _ | exact ns_noView hl _ | exact ns_markS hl _ | exact ns_stringish hl _ | exact ns_mayBeOne hl _ _ | exact ns_sameAddr hl _ _ | exact ns_samePointer hl _ _ | exact ns_holdsCells hl _ _ | exact ns_mayShare hl _ _ _ _ _ | exact ns_append _ _ _ | exact ns_typeStr hl _ | exact ns_byteOf hl _ | refine NS.bind ?_ (fun _ => ?_) | refine ns_ite ?_ ?_) | split | dsimp only)
theorem ns_eqGuardIn (hl : l ≤ 1) : ∀ (d : Nat) (t : TypeId) (x y : Value), NS l P (Op.eqGuardIn d t x y)
  | 0, _, _, _ => trivial
  | d + 1, t, x, y => by
    have ih := ns_eqGuardIn hl d
    unfold Op.eqGuardIn
    repeat' (first | with_reducible (first | assumption | exact ih _ _ _ | refine NS.bind (ns_forIn fun _ _ => ?_) (fun _ => ?_) | refine NS.bind (ns_forR fun _ _ => ?_) (fun _ => ?_) | exact ns_pure _ | exact ns_map (ns_choose _) | exact ns_map (ns_choose _) | exact ns_stuck _ | exact ns_uns _ | exact ns_goPanic _ | exact ns_program | exact ns_load _ _ | exact ns_store _ _ _ | exact ns_choose _ | exact ns_getObj _ | exact ns_cells _ _ | exact ns_mapO _ _ | exact ns_setMap _ _ _ | exact ns_room _ | exact ns_newLoop _ | exact ns_newDef _ | exact ns_setLoop _ _ | exact ns_setDef _ _ | exact ns_typeInfo _ | exact ns_underlying _ | exact ns_zeroValue _ | exact ns_sizeOf _ | exact ns_isAgg _ | exact ns_loadCells _ _ | exact ns_storeCells _ _ _ | exact ns_loadVar _ _ | exact ns_storeVar _ _ _ | exact ns_newRow _ _ | exact ns_newVar _ _ | exact ns_elemOf _ | exact ns_part _ _ _ | exact ns_runtimePanic _ | exact ns_boundsPanic _ _ _ _ | exact ns_asIntOf _ | exact ns_asInt _ | exact ns_asBool _ | exact ns_asAgg _ | exact ns_asAddr _ | exact ns_sureAddr _ | exact ns_loadAt _ _ | exact ns_storeAt _ _ _ | exact ns_indexAt _ _ _ | exact ns_sliceBound _ _ _ | exact ns_sliceBounds _ _ _ _ _ _ | exact ns_slice _ _ _ _ _ | exact ns_sliceAt _ _ _ _ _ | exact ns_arrayAt _ _ | exact ns_alloc _ _ _ | exact ns_box _ _ | exact ns_build _ _ | exact ns_buildSlice _ _ _ | exact ns_extract _ _ | exact ns_field _ _ _ | exact ns_index _ _ _ | exact ns_makeFunc _ _ _ | exact ns_makeMap _ _ | exact ns_makeSlice _ _ _ | exact ns_makeInterface _ _ | exact ns_intArith _ _ _ _ | exact ns_intDiv _ _ _ _ | exact ns_intBits _ _ _ _ | exact ns_intCmp _ _ _ | exact ns_shift _ _ _ _ _ | exact ns_stringOp _ _ _ | exact ns_unary _ _ | exact ns_lenOf _ | exact ns_firstCells _ _ _ | exact ns_copy _ _ _ | exact ns_len _ _ _ | exact ns_cap _ _ _ | exact ns_shape hl _ | exact ns_frozen hl _ | exact ns_freeze hl _ _ | exact ns_new1 hl _ | exact ns_set1 hl _ _ | exact ns_viewAt hl _ | exact ns_numberAt hl _ | exact ns_cellsIn hl _ | exact ns_asNumber hl _ _ | exact ns_behind hl _ | exact ns_noView hl _ | exact ns_markS hl _ | exact ns_stringish hl _ | exact ns_mayBeOne hl _ _ | exact ns_sameAddr hl _ _ | exact ns_samePointer hl _ _ | exact ns_holdsCells hl _ _ | exact ns_mayShare hl _ _ _ _ _ | exact ns_append _ _ _ | exact ns_typeStr hl _ | exact ns_byteOf hl _ | exact ns_equalIn hl _ _ _ _ | refine NS.bind ?_ (fun _ => ?_) | refine ns_ite ?_ ?_) | split | dsimp only)
theorem ns_equal (hl : l ≤ 1) (t : TypeId) (x y : Value) : NS l P (Op.equal t x y) := by
  unfold Op.equal
  repeat' (first | with_reducible (first | assumption | exact ns_pure _ | exact ns_map (ns_choose _) | exact ns_map (ns_choose _) | exact ns_stuck _ | exact ns_uns _ | exact ns_goPanic _ | exact ns_program | exact ns_load _ _ | exact ns_store _ _ _ | exact ns_choose _ | exact ns_getObj _ | exact ns_cells _ _ | exact ns_mapO _ _ | exact ns_setMap _ _ _ | exact ns_room _ | exact ns_newLoop _ | exact ns_newDef _ | exact ns_setLoop _ _ | exact ns_setDef _ _ | exact ns_typeInfo _ | exact ns_underlying _ | exact ns_zeroValue _ | exact ns_sizeOf _ | exact ns_isAgg _ | exact ns_loadCells _ _ | exact ns_storeCells _ _ _ | exact ns_loadVar _ _ | exact ns_storeVar _ _ _ | exact ns_newRow _ _ | exact ns_newVar _ _ | exact ns_elemOf _ | exact ns_part _ _ _ | exact ns_runtimePanic _ | exact ns_boundsPanic _ _ _ _ | exact ns_asIntOf _ | exact ns_asInt _ | exact ns_asBool _ | exact ns_asAgg _ | exact ns_asAddr _ | exact ns_sureAddr _ | exact ns_loadAt _ _ | exact ns_storeAt _ _ _ | exact ns_indexAt _ _ _ | exact ns_sliceBound _ _ _ | exact ns_sliceBounds _ _ _ _ _ _ | exact ns_slice _ _ _ _ _ | exact ns_sliceAt _ _ _ _ _ | exact ns_arrayAt _ _ | exact ns_alloc _ _ _ | exact ns_box _ _ | exact ns_build _ _ | exact ns_buildSlice _ _ _ | exact ns_extract _ _ | exact ns_field _ _ _ | exact ns_index _ _ _ | exact ns_makeFunc _ _ _ | exact ns_makeMap _ _ | exact ns_makeSlice _ _ _ | exact ns_makeInterface _ _ | exact ns_intArith _ _ _ _ | exact ns_intDiv _ _ _ _ | exact ns_intBits _ _ _ _ | exact ns_intCmp _ _ _ | exact ns_shift _ _ _ _ _ | exact ns_stringOp _ _ _ | exact ns_unary _ _ | exact ns_lenOf _ | exact ns_firstCells _ _ _ | exact ns_copy _ _ _ | exact ns_len _ _ _ | exact ns_cap _ _ _ | exact ns_shape hl _ | exact ns_frozen hl _ | exact ns_freeze hl _ _ | exact ns_new1 hl _ | exact ns_set1 hl _ _ | exact ns_viewAt hl _ | exact ns_numberAt hl _ | exact ns_cellsIn hl _ | exact ns_asNumber hl _ _ | exact ns_behind hl _ | exact ns_noView hl _ | exact ns_markS hl _ | exact ns_stringish hl _ | exact ns_mayBeOne hl _ _ | exact ns_sameAddr hl _ _ | exact ns_samePointer hl _ _ | exact ns_holdsCells hl _ _ | exact ns_mayShare hl _ _ _ _ _ | exact ns_append _ _ _ | exact ns_typeStr hl _ | exact ns_byteOf hl _ | exact ns_equalIn hl _ _ _ _ | exact ns_eqGuardIn hl _ _ _ _ | refine NS.bind ?_ (fun _ => ?_) | refine ns_ite ?_ ?_) | split | dsimp only)
theorem ns_eqGuard (hl : l ≤ 1) (op : BinOp) (t : TypeId) (x y : Operand) (a b : Value) : NS l P (eqGuard op t x y a b) := by
  unfold eqGuard
  repeat' (first | with_reducible (first | assumption | exact ns_pure _ | exact ns_map (ns_choose _) | exact ns_map (ns_choose _) | exact ns_stuck _ | exact ns_uns _ | exact ns_goPanic _ | exact ns_program | exact ns_load _ _ | exact ns_store _ _ _ | exact ns_choose _ | exact ns_getObj _ | exact ns_cells _ _ | exact ns_mapO _ _ | exact ns_setMap _ _ _ | exact ns_room _ | exact ns_newLoop _ | exact ns_newDef _ | exact ns_setLoop _ _ | exact ns_setDef _ _ | exact ns_typeInfo _ | exact ns_underlying _ | exact ns_zeroValue _ | exact ns_sizeOf _ | exact ns_isAgg _ | exact ns_loadCells _ _ | exact ns_storeCells _ _ _ | exact ns_loadVar _ _ | exact ns_storeVar _ _ _ | exact ns_newRow _ _ | exact ns_newVar _ _ | exact ns_elemOf _ | exact ns_part _ _ _ | exact ns_runtimePanic _ | exact ns_boundsPanic _ _ _ _ | exact ns_asIntOf _ | exact ns_asInt _ | exact ns_asBool _ | exact ns_asAgg _ | exact ns_asAddr _ | exact ns_sureAddr _ | exact ns_loadAt _ _ | exact ns_storeAt _ _ _ | exact ns_indexAt _ _ _ | exact ns_sliceBound _ _ _ | exact ns_sliceBounds _ _ _ _ _ _ | exact ns_slice _ _ _ _ _ | exact ns_sliceAt _ _ _ _ _ | exact ns_arrayAt _ _ | exact ns_alloc _ _ _ | exact ns_box _ _ | exact ns_build _ _ | exact ns_buildSlice _ _ _ | exact ns_extract _ _ | exact ns_field _ _ _ | exact ns_index _ _ _ | exact ns_makeFunc _ _ _ | exact ns_makeMap _ _ | exact ns_makeSlice _ _ _ | exact ns_makeInterface _ _ | exact ns_intArith _ _ _ _ | exact ns_intDiv _ _ _ _ | exact ns_intBits _ _ _ _ | exact ns_intCmp _ _ _ | exact ns_shift _ _ _ _ _ | exact ns_stringOp _ _ _ | exact ns_unary _ _ | exact ns_lenOf _ | exact ns_firstCells _ _ _ | exact ns_copy _ _ _ | exact ns_len _ _ _ | exact ns_cap _ _ _ | exact ns_shape hl _ | exact ns_frozen hl _ | exact ns_freeze hl _ _ | exact ns_new1 hl _ | exact ns_set1 hl _ _ | exact ns_viewAt hl _ | exact ns_numberAt hl _ | exact ns_cellsIn hl _ | exact ns_asNumber hl _ _ | exact ns_behind hl _ | exact ns_noView hl _ | exact ns_markS hl _ | exact ns_stringish hl _ | exact ns_mayBeOne hl _ _ | exact ns_sameAddr hl _ _ | exact ns_samePointer hl _ _ | exact ns_holdsCells hl _ _ | exact ns_mayShare hl _ _ _ _ _ | exact ns_append _ _ _ | exact ns_typeStr hl _ | exact ns_byteOf hl _ | exact ns_equalIn hl _ _ _ _ | exact ns_eqGuardIn hl _ _ _ _ | exact ns_equal hl _ _ _ | refine NS.bind ?_ (fun _ => ?_) | refine ns_ite ?_ ?_) | split | dsimp only)
theorem ns_partAt (hl : l ≤ 1) (a : Addr) (b c : Nat) : NS l P (partAt a b c) := by
  unfold partAt
  repeat' (first | with_reducible (first | assumption | exact ns_pure _ | exact ns_map (ns_choose _) | exact ns_map (ns_choose _) | exact ns_stuck _ | exact ns_uns _ | exact ns_goPanic _ | exact ns_program | exact ns_load _ _ | exact ns_store _ _ _ | exact ns_choose _ | exact ns_getObj _ | exact ns_cells _ _ | exact ns_mapO _ _ | exact ns_setMap _ _ _ | exact ns_room _ | exact ns_newLoop _ | exact ns_newDef _ | exact ns_setLoop _ _ | exact ns_setDef _ _ | exact ns_typeInfo _ | exact ns_underlying _ | exact ns_zeroValue _ | exact ns_sizeOf _ | exact ns_isAgg _ | exact ns_loadCells _ _ | exact ns_storeCells _ _ _ | exact ns_loadVar _ _ | exact ns_storeVar _ _ _ | exact ns_newRow _ _ | exact ns_newVar _ _ | exact ns_elemOf _ | exact ns_part _ _ _ | exact ns_runtimePanic _ | exact ns_boundsPanic _ _ _ _ | exact ns_asIntOf _ | exact ns_asInt _ | exact ns_asBool _ | exact ns_asAgg _ | exact ns_asAddr _ | exact ns_sureAddr _ | exact ns_loadAt _ _ | exact ns_storeAt _ _ _ | exact ns_indexAt _ _ _ | exact ns_sliceBound _ _ _ | exact ns_sliceBounds _ _ _ _ _ _ | exact ns_slice _ _ _ _ _ | exact ns_sliceAt _ _ _ _ _ | exact ns_arrayAt _ _ | exact ns_alloc _ _ _ | exact ns_box _ _ | exact ns_build _ _ | exact ns_buildSlice _ _ _ | exact ns_extract _ _ | exact ns_field _ _ _ | exact ns_index _ _ _ | exact ns_makeFunc _ _ _ | exact ns_makeMap _ _ | exact ns_makeSlice _ _ _ | exact ns_makeInterface _ _ | exact ns_intArith _ _ _ _ | exact ns_intDiv _ _ _ _ | exact ns_intBits _ _ _ _ | exact ns_intCmp _ _ _ | exact ns_shift _ _ _ _ _ | exact ns_stringOp _ _ _ | exact ns_unary _ _ | exact ns_lenOf _ | exact ns_firstCells _ _ _ | exact ns_copy _ _ _ | exact ns_len _ _ _ | exact ns_cap _ _ _ | exact ns_shape hl _ | exact ns_frozen hl _ | exact ns_freeze hl _ _ | exact ns_new1 hl _ | exact ns_set1 hl _ _ | exact ns_viewAt hl _ | exact ns_numberAt hl _ | exact ns_cellsIn hl _ | exact ns_asNumber hl _ _ | exact ns_behind hl _ | exact ns_noView hl _ | exact ns_markS hl _ | exact ns_stringish hl _ | exact ns_mayBeOne hl _ _ | exact ns_sameAddr hl _ _ | exact ns_samePointer hl _ _ | exact ns_holdsCells hl _ _ | exact ns_mayShare hl _ _ _ _ _ | exact ns_append _ _ _ | exact ns_typeStr hl _ | exact ns_byteOf hl _ | exact ns_equalIn hl _ _ _ _ | exact ns_eqGuardIn hl _ _ _ _ | exact ns_equal hl _ _ _ | exact ns_eqGuard hl _ _ _ _ _ _ | refine NS.bind ?_ (fun _ => ?_) | refine ns_ite ?_ ?_) | split | dsimp only)
theorem ns_fieldPlace (hl : l ≤ 1) (a : Addr) (b : Field) : NS l P (fieldPlace a b) := by
  unfold fieldPlace
  repeat' (first | with_reducible (first | assumption | exact ns_pure _ | exact ns_map (ns_choose _) | exact ns_map (ns_choose _) | exact ns_stuck _ | exact ns_uns _ | exact ns_goPanic _ | exact ns_program | exact ns_load _ _ | exact ns_store _ _ _ | exact ns_choose _ | exact ns_getObj _ | exact ns_cells _ _ | exact ns_mapO _ _ | exact ns_setMap _ _ _ | exact ns_room _ | exact ns_newLoop _ | exact ns_newDef _ | exact ns_setLoop _ _ | exact ns_setDef _ _ | exact ns_typeInfo _ | exact ns_underlying _ | exact ns_zeroValue _ | exact ns_sizeOf _ | exact ns_isAgg _ | exact ns_loadCells _ _ | exact ns_storeCells _ _ _ | exact ns_loadVar _ _ | exact ns_storeVar _ _ _ | exact ns_newRow _ _ | exact ns_newVar _ _ | exact ns_elemOf _ | exact ns_part _ _ _ | exact ns_runtimePanic _ | exact ns_boundsPanic _ _ _ _ | exact ns_asIntOf _ | exact ns_asInt _ | exact ns_asBool _ | exact ns_asAgg _ | exact ns_asAddr _ | exact ns_sureAddr _ | exact ns_loadAt _ _ | exact ns_storeAt _ _ _ | exact ns_indexAt _ _ _ | exact ns_sliceBound _ _ _ | exact ns_sliceBounds _ _ _ _ _ _ | exact ns_slice _ _ _ _ _ | exact ns_sliceAt _ _ _ _ _ | exact ns_arrayAt _ _ | exact ns_alloc _ _ _ | exact ns_box _ _ | exact ns_build _ _ | exact ns_buildSlice _ _ _ | exact ns_extract _ _ | exact ns_field _ _ _ | exact ns_index _ _ _ | exact ns_makeFunc _ _ _ | exact ns_makeMap _ _ | exact ns_makeSlice _ _ _ | exact ns_makeInterface _ _ | exact ns_intArith _ _ _ _ | exact ns_intDiv _ _ _ _ | exact ns_intBits _ _ _ _ | exact ns_intCmp _ _ _ | exact ns_shift _ _ _ _ _ | exact ns_stringOp _ _ _ | exact ns_unary _ _ | exact ns_lenOf _ | exact ns_firstCells _ _ _ | exact ns_copy _ _ _ | exact ns_len _ _ _ | exact ns_cap _ _ _ | exact ns_shape hl _ | exact ns_frozen hl _ | exact ns_freeze hl _ _ | exact ns_new1 hl _ | exact ns_set1 hl _ _ | exact ns_viewAt hl _ | exact ns_numberAt hl _ | exact ns_cellsIn hl _ | exact ns_asNumber hl _ _ | exact ns_behind hl _ | exact ns_noView hl _ | exact ns_markS hl _ | exact ns_stringish hl _ | exact ns_mayBeOne hl _ _ | exact ns_sameAddr hl _ _ | exact ns_samePointer hl _ _ | exact ns_holdsCells hl _ _ | exact ns_mayShare hl _ _ _ _ _ | exact ns_append _ _ _ | exact ns_typeStr hl _ | exact ns_byteOf hl _ | exact ns_equalIn hl _ _ _ _ | exact ns_eqGuardIn hl _ _ _ _ | exact ns_equal hl _ _ _ | exact ns_eqGuard hl _ _ _ _ _ _ | exact ns_partAt hl _ _ _ | refine NS.bind ?_ (fun _ => ?_) | refine ns_ite ?_ ?_) | split | dsimp only)
theorem ns_fieldAt (hl : l ≤ 1) (t : TypeId) (a : Value) (f : Nat) : NS l P (Instr.fieldAt t a f) := by
  unfold Instr.fieldAt
  repeat' (first | with_reducible (first | assumption | exact ns_pure _ | exact ns_map (ns_choose _) | exact ns_map (ns_choose _) | exact ns_stuck _ | exact ns_uns _ | exact ns_goPanic _ | exact ns_program | exact ns_load _ _ | exact ns_store _ _ _ | exact ns_choose _ | exact ns_getObj _ | exact ns_cells _ _ | exact ns_mapO _ _ | exact ns_setMap _ _ _ | exact ns_room _ | exact ns_newLoop _ | exact ns_newDef _ | exact ns_setLoop _ _ | exact ns_setDef _ _ | exact ns_typeInfo _ | exact ns_underlying _ | exact ns_zeroValue _ | exact ns_sizeOf _ | exact ns_isAgg _ | exact ns_loadCells _ _ | exact ns_storeCells _ _ _ | exact ns_loadVar _ _ | exact ns_storeVar _ _ _ | exact ns_newRow _ _ | exact ns_newVar _ _ | exact ns_elemOf _ | exact ns_part _ _ _ | exact ns_runtimePanic _ | exact ns_boundsPanic _ _ _ _ | exact ns_asIntOf _ | exact ns_asInt _ | exact ns_asBool _ | exact ns_asAgg _ | exact ns_asAddr _ | exact ns_sureAddr _ | exact ns_loadAt _ _ | exact ns_storeAt _ _ _ | exact ns_indexAt _ _ _ | exact ns_sliceBound _ _ _ | exact ns_sliceBounds _ _ _ _ _ _ | exact ns_slice _ _ _ _ _ | exact ns_sliceAt _ _ _ _ _ | exact ns_arrayAt _ _ | exact ns_alloc _ _ _ | exact ns_box _ _ | exact ns_build _ _ | exact ns_buildSlice _ _ _ | exact ns_extract _ _ | exact ns_field _ _ _ | exact ns_index _ _ _ | exact ns_makeFunc _ _ _ | exact ns_makeMap _ _ | exact ns_makeSlice _ _ _ | exact ns_makeInterface _ _ | exact ns_intArith _ _ _ _ | exact ns_intDiv _ _ _ _ | exact ns_intBits _ _ _ _ | exact ns_intCmp _ _ _ | exact ns_shift _ _ _ _ _ | exact ns_stringOp _ _ _ | exact ns_unary _ _ | exact ns_lenOf _ | exact ns_firstCells _ _ _ | exact ns_copy _ _ _ | exact ns_len _ _ _ | exact ns_cap _ _ _ | exact ns_shape hl _ | exact ns_frozen hl _ | exact ns_freeze hl _ _ | exact ns_new1 hl _ | exact ns_set1 hl _ _ | exact ns_viewAt hl _ | exact ns_numberAt hl _ | exact ns_cellsIn hl _ | exact ns_asNumber hl _ _ | exact ns_behind hl _ | exact ns_noView hl _ | exact ns_markS hl _ | exact ns_stringish hl _ | exact ns_mayBeOne hl _ _ | exact ns_sameAddr hl _ _ | exact ns_samePointer hl _ _ | exact ns_holdsCells hl _ _ | exact ns_mayShare hl _ _ _ _ _ | exact ns_append _ _ _ | exact ns_typeStr hl _ | exact ns_byteOf hl _ | exact ns_equalIn hl _ _ _ _ | exact ns_eqGuardIn hl _ _ _ _ | exact ns_equal hl _ _ _ | exact ns_eqGuard hl _ _ _ _ _ _ | exact ns_partAt hl _ _ _ | exact ns_fieldPlace hl _ _ | refine NS.bind ?_ (fun _ => ?_) | refine ns_ite ?_ ?_) | split | dsimp only)
end
end Go.Ax

namespace Go.Ax
open Go Go.RowKit
section
variable {P : Program} {l : Nat}
theorem ns_floatCmp (op : BinOp) (k : FloatKind) (x y : Nat) : NS l P (Op.floatCmp op k x y) := by
  unfold Op.floatCmp
  repeat' (first | with_reducible (first | assumption | exact ns_pure _ | exact ns_map (ns_choose _) | exact ns_map (ns_choose _) | exact ns_stuck _ | exact ns_uns _ | exact ns_goPanic _ | exact ns_program | exact ns_load _ _ | exact ns_store _ _ _ | exact ns_choose _ | exact ns_getObj _ | exact ns_cells _ _ | exact ns_mapO _ _ | exact ns_setMap _ _ _ | exact ns_room _ | exact ns_newLoop _ | exact ns_newDef _ | exact ns_setLoop _ _ | exact ns_setDef _ _ | exact ns_typeInfo _ | exact ns_underlying _ | exact ns_zeroValue _ | exact ns_sizeOf _ | exact ns_isAgg _ | exact ns_loadCells _ _ | exact ns_storeCells _ _ _ | exact ns_loadVar _ _ | exact ns_storeVar _ _ _ | exact ns_newRow _ _ | exact ns_newVar _ _ | exact ns_elemOf _ | exact ns_part _ _ _ | exact ns_runtimePanic _ | exact ns_boundsPanic _ _ _ _ | exact ns_asIntOf _ | exact ns_asInt _ | exact ns_asBool _ | exact ns_asAgg _ | exact ns_asAddr _ | exact ns_sureAddr _ | exact ns_loadAt _ _ | exact ns_storeAt _ _ _ | exact ns_indexAt _ _ _ | exact ns_sliceBound _ _ _ | exact ns_sliceBounds _ _ _ _ _ _ | exact ns_slice _ _ _ _ _ | exact ns_sliceAt _ _ _ _ _ | exact ns_arrayAt _ _ | exact ns_alloc _ _ _ | exact ns_box _ _ | exact ns_build _ _ | exact ns_buildSlice _ _ _ | exact ns_extract _ _ | exact ns_field _ _ _ | exact ns_index _ _ _ | exact ns_makeFunc _ _ _ | exact ns_makeMap _ _ | exact ns_makeSlice _ _ _ | exact ns_makeInterface _ _ | exact ns_intArith _ _ _ _ | exact ns_intDiv _ _ _ _ | exact ns_intBits _ _ _ _ | exact ns_intCmp _ _ _ | exact ns_shift _ _ _ _ _ | exact ns_stringOp _ _ _ | exact ns_unary _ _ | exact ns_lenOf _ | exact ns_firstCells _ _ _ | exact ns_copy _ _ _ | exact ns_len _ _ _ | exact ns_cap _ _ _ | exact ns_shape hl _ | exact ns_frozen hl _ | exact ns_freeze hl _ _ | exact ns_new1 hl _ | exact ns_set1 hl _ _ | exact ns_viewAt hl _ | exact ns_numberAt hl _ | exact ns_cellsIn hl _ | exact ns_asNumber hl _ _ | exact ns_behind hl _ | exact ns_noView hl _ | exact ns_markS hl _ | exact ns_stringish hl _ | exact ns_mayBeOne hl _ _ | exact ns_sameAddr hl _ _ | exact ns_samePointer hl _ _ | exact ns_holdsCells hl _ _ | exact ns_mayShare hl _ _ _ _ _ | exact ns_append _ _ _ | exact ns_typeStr hl _ | exact ns_byteOf hl _ | exact ns_equalIn hl _ _ _ _ | exact ns_eqGuardIn hl _ _ _ _ | exact ns_equal hl _ _ _ | exact ns_eqGuard hl _ _ _ _ _ _ | exact ns_partAt hl _ _ _ | exact ns_fieldPlace hl _ _ | exact ns_fieldAt hl _ _ _ | refine NS.bind ?_ (fun _ => ?_) | refine ns_ite ?_ ?_) | split | dsimp only)
theorem ns_cmp (op : BinOp) (k : FloatKind) (x y : Nat) : NS l P (Op.Complex.cmp op k x y) := by
  unfold Op.Complex.cmp
  repeat' (first | with_reducible (first | assumption | exact ns_pure _ | exact ns_map (ns_choose _) | exact ns_map (ns_choose _) | exact ns_stuck _ | exact ns_uns _ | exact ns_goPanic _ | exact ns_program | exact ns_load _ _ | exact ns_store _ _ _ | exact ns_choose _ | exact ns_getObj _ | exact ns_cells _ _ | exact ns_mapO _ _ | exact ns_setMap _ _ _ | exact ns_room _ | exact ns_newLoop _ | exact ns_newDef _ | exact ns_setLoop _ _ | exact ns_setDef _ _ | exact ns_typeInfo _ | exact ns_underlying _ | exact ns_zeroValue _ | exact ns_sizeOf _ | exact ns_isAgg _ | exact ns_loadCells _ _ | exact ns_storeCells _ _ _ | exact ns_loadVar _ _ | exact ns_storeVar _ _ _ | exact ns_newRow _ _ | exact ns_newVar _ _ | exact ns_elemOf _ | exact ns_part _ _ _ | exact ns_runtimePanic _ | exact ns_boundsPanic _ _ _ _ | exact ns_asIntOf _ | exact ns_asInt _ | exact ns_asBool _ | exact ns_asAgg _ | exact ns_asAddr _ | exact ns_sureAddr _ | exact ns_loadAt _ _ | exact ns_storeAt _ _ _ | exact ns_indexAt _ _ _ | exact ns_sliceBound _ _ _ | exact ns_sliceBounds _ _ _ _ _ _ | exact ns_slice _ _ _ _ _ | exact ns_sliceAt _ _ _ _ _ | exact ns_arrayAt _ _ | exact ns_alloc _ _ _ | exact ns_box _ _ | exact ns_build _ _ | exact ns_buildSlice _ _ _ | exact ns_extract _ _ | exact ns_field _ _ _ | exact ns_index _ _ _ | exact ns_makeFunc _ _ _ | exact ns_makeMap _ _ | exact ns_makeSlice _ _ _ | exact ns_makeInterface _ _ | exact ns_intArith _ _ _ _ | exact ns_intDiv _ _ _ _ | exact ns_intBits _ _ _ _ | exact ns_intCmp _ _ _ | exact ns_shift _ _ _ _ _ | exact ns_stringOp _ _ _ | exact ns_unary _ _ | exact ns_lenOf _ | exact ns_firstCells _ _ _ | exact ns_copy _ _ _ | exact ns_len _ _ _ | exact ns_cap _ _ _ | exact ns_shape hl _ | exact ns_frozen hl _ | exact ns_freeze hl _ _ | exact ns_new1 hl _ | exact ns_set1 hl _ _ | exact ns_viewAt hl _ | exact ns_numberAt hl _ | exact ns_cellsIn hl _ | exact ns_asNumber hl _ _ | exact ns_behind hl _ | exact ns_noView hl _ | exact ns_markS hl _ | exact ns_stringish hl _ | exact ns_mayBeOne hl _ _ | exact ns_sameAddr hl _ _ | exact ns_samePointer hl _ _ | exact ns_holdsCells hl _ _ | exact ns_mayShare hl _ _ _ _ _ | exact ns_append _ _ _ | exact ns_typeStr hl _ | exact ns_byteOf hl _ | exact ns_equalIn hl _ _ _ _ | exact ns_eqGuardIn hl _ _ _ _ | exact ns_equal hl _ _ _ | exact ns_eqGuard hl _ _ _ _ _ _ | exact ns_partAt hl _ _ _ | exact ns_fieldPlace hl _ _ | exact ns_fieldAt hl _ _ _ | exact ns_floatCmp _ _ _ _ | refine NS.bind ?_ (fun _ => ?_) | refine ns_ite ?_ ?_) | split | dsimp only)
theorem ns_complexEq {op : BinOp} (hop : op = .eql ∨ op = .neq) (k : FloatKind) (a b c d : Nat) : NS l P (Op.complexOp op k a b c d) := by
  rcases hop with rfl | rfl <;> exact NS.bind (ns_cmp _ _ _ _) fun _ => by first | exact NS.bind (ns_cmp _ _ _ _) fun _ => ns_pure _ | (split <;> first | exact NS.bind (ns_cmp _ _ _ _) fun _ => ns_pure _ | exact ns_pure _)
theorem ns_binOpEq (hl : l ≤ 1) {op : BinOp} (hop : op = .eql ∨ op = .neq) (t : TypeId) (x y : Value) : NS l P (binOp op t x y) := by
  rcases hop with rfl | rfl
  · unfold binOp
    repeat' (first | with_reducible assumption | contradiction | with_reducible (first | exact ns_pure _ | exact ns_map (ns_choose _) | exact ns_map (ns_choose _) | exact ns_stuck _ | exact ns_uns _ | exact ns_goPanic _ | exact ns_program | exact ns_load _ _ | exact ns_store _ _ _ | exact ns_choose _ | exact ns_getObj _ | exact ns_cells _ _ | exact ns_mapO _ _ | exact ns_setMap _ _ _ | exact ns_room _ | exact ns_newLoop _ | exact ns_newDef _ | exact ns_setLoop _ _ | exact ns_setDef _ _ | exact ns_typeInfo _ | exact ns_underlying _ | exact ns_zeroValue _ | exact ns_sizeOf _ | exact ns_isAgg _ | exact ns_loadCells _ _ | exact ns_storeCells _ _ _ | exact ns_loadVar _ _ | exact ns_storeVar _ _ _ | exact ns_newRow _ _ | exact ns_newVar _ _ | exact ns_elemOf _ | exact ns_part _ _ _ | exact ns_runtimePanic _ | exact ns_boundsPanic _ _ _ _ | exact ns_asIntOf _ | exact ns_asInt _ | exact ns_asBool _ | exact ns_asAgg _ | exact ns_asAddr _ | exact ns_sureAddr _ | exact ns_loadAt _ _ | exact ns_storeAt _ _ _ | exact ns_indexAt _ _ _ | exact ns_sliceBound _ _ _ | exact ns_sliceBounds _ _ _ _ _ _ | exact ns_slice _ _ _ _ _ | exact ns_sliceAt _ _ _ _ _ | exact ns_arrayAt _ _ | exact ns_alloc _ _ _ | exact ns_box _ _ | exact ns_build _ _ | exact ns_buildSlice _ _ _ | exact ns_extract _ _ | exact ns_field _ _ _ | exact ns_index _ _ _ | exact ns_makeFunc _ _ _ | exact ns_makeMap _ _ | exact ns_makeSlice _ _ _ | exact ns_makeInterface _ _ | exact ns_intArith _ _ _ _ | exact ns_intDiv _ _ _ _ | exact ns_intBits _ _ _ _ | exact ns_intCmp _ _ _ | exact ns_shift _ _ _ _ _ | exact ns_stringOp _ _ _ | exact ns_unary _ _ | exact ns_lenOf _ | exact ns_firstCells _ _ _ | exact ns_copy _ _ _ | exact ns_len _ _ _ | exact ns_cap _ _ _ | exact ns_shape hl _ | exact ns_frozen hl _ | exact ns_freeze hl _ _ | exact ns_new1 hl _ | exact ns_set1 hl _ _ | exact ns_viewAt hl _ | exact ns_numberAt hl _ | exact ns_cellsIn hl _ | exact ns_asNumber hl _ _ | exact ns_behind hl _ | exact ns_noView hl _ | exact ns_markS hl _ | exact ns_stringish hl _ | exact ns_mayBeOne hl _ _ | exact ns_sameAddr hl _ _ | exact ns_samePointer hl _ _ | exact ns_holdsCells hl _ _ | exact ns_mayShare hl _ _ _ _ _ | exact ns_append _ _ _ | exact ns_typeStr hl _ | exact ns_byteOf hl _ | exact ns_equalIn hl _ _ _ _ | exact ns_eqGuardIn hl _ _ _ _ | exact ns_equal hl _ _ _ | exact ns_eqGuard hl _ _ _ _ _ _ | exact ns_partAt hl _ _ _ | exact ns_fieldPlace hl _ _ | exact ns_fieldAt hl _ _ _ | exact ns_floatCmp _ _ _ _ | exact ns_cmp _ _ _ _ | exact ns_complexEq (by simp) _ _ _ _ _ | refine NS.bind ?_ (fun _ => ?_) | refine ns_ite ?_ ?_) | split | dsimp only)
  · unfold binOp
    repeat' (first | with_reducible assumption | contradiction | with_reducible (first | exact ns_pure _ | exact ns_map (ns_choose _) | exact ns_map (ns_choose _) | exact ns_stuck _ | exact ns_uns _ | exact ns_goPanic _ | exact ns_program | exact ns_load _ _ | exact ns_store _ _ _ | exact ns_choose _ | exact ns_getObj _ | exact ns_cells _ _ | exact ns_mapO _ _ | exact ns_setMap _ _ _ | exact ns_room _ | exact ns_newLoop _ | exact ns_newDef _ | exact ns_setLoop _ _ | exact ns_setDef _ _ | exact ns_typeInfo _ | exact ns_underlying _ | exact ns_zeroValue _ | exact ns_sizeOf _ | exact ns_isAgg _ | exact ns_loadCells _ _ | exact ns_storeCells _ _ _ | exact ns_loadVar _ _ | exact ns_storeVar _ _ _ | exact ns_newRow _ _ | exact ns_newVar _ _ | exact ns_elemOf _ | exact ns_part _ _ _ | exact ns_runtimePanic _ | exact ns_boundsPanic _ _ _ _ | exact ns_asIntOf _ | exact ns_asInt _ | exact ns_asBool _ | exact ns_asAgg _ | exact ns_asAddr _ | exact ns_sureAddr _ | exact ns_loadAt _ _ | exact ns_storeAt _ _ _ | exact ns_indexAt _ _ _ | exact ns_sliceBound _ _ _ | exact ns_sliceBounds _ _ _ _ _ _ | exact ns_slice _ _ _ _ _ | exact ns_sliceAt _ _ _ _ _ | exact ns_arrayAt _ _ | exact ns_alloc _ _ _ | exact ns_box _ _ | exact ns_build _ _ | exact ns_buildSlice _ _ _ | exact ns_extract _ _ | exact ns_field _ _ _ | exact ns_index _ _ _ | exact ns_makeFunc _ _ _ | exact ns_makeMap _ _ | exact ns_makeSlice _ _ _ | exact ns_makeInterface _ _ | exact ns_intArith _ _ _ _ | exact ns_intDiv _ _ _ _ | exact ns_intBits _ _ _ _ | exact ns_intCmp _ _ _ | exact ns_shift _ _ _ _ _ | exact ns_stringOp _ _ _ | exact ns_unary _ _ | exact ns_lenOf _ | exact ns_firstCells _ _ _ | exact ns_copy _ _ _ | exact ns_len _ _ _ | exact ns_cap _ _ _ | exact ns_shape hl _ | exact ns_frozen hl _ | exact ns_freeze hl _ _ | exact ns_new1 hl _ | exact ns_set1 hl _ _ | exact ns_viewAt hl _ | exact ns_numberAt hl _ | exact ns_cellsIn hl _ | exact ns_asNumber hl _ _ | exact ns_behind hl _ | exact ns_noView hl _ | exact ns_markS hl _ | exact ns_stringish hl _ | exact ns_mayBeOne hl _ _ | exact ns_sameAddr hl _ _ | exact ns_samePointer hl _ _ | exact ns_holdsCells hl _ _ | exact ns_mayShare hl _ _ _ _ _ | exact ns_append _ _ _ | exact ns_typeStr hl _ | exact ns_byteOf hl _ | exact ns_equalIn hl _ _ _ _ | exact ns_eqGuardIn hl _ _ _ _ | exact ns_equal hl _ _ _ | exact ns_eqGuard hl _ _ _ _ _ _ | exact ns_partAt hl _ _ _ | exact ns_fieldPlace hl _ _ | exact ns_fieldAt hl _ _ _ | exact ns_floatCmp _ _ _ _ | exact ns_cmp _ _ _ _ | exact ns_complexEq (by simp) _ _ _ _ _ | refine NS.bind ?_ (fun _ => ?_) | refine ns_ite ?_ ?_) | split | dsimp only)
theorem ns_binOpInt (op : BinOp) (t : TypeId) (k k' : IntKind) (a b : Int) : NS l P (binOp op t (.int k a) (.int k' b)) := by
  cases op <;> unfold binOp <;> repeat' (first | with_reducible (first | assumption | exact ns_pure _ | exact ns_map (ns_choose _) | exact ns_map (ns_choose _) | exact ns_stuck _ | exact ns_uns _ | exact ns_goPanic _ | exact ns_program | exact ns_load _ _ | exact ns_store _ _ _ | exact ns_choose _ | exact ns_getObj _ | exact ns_cells _ _ | exact ns_mapO _ _ | exact ns_setMap _ _ _ | exact ns_room _ | exact ns_newLoop _ | exact ns_newDef _ | exact ns_setLoop _ _ | exact ns_setDef _ _ | exact ns_typeInfo _ | exact ns_underlying _ | exact ns_zeroValue _ | exact ns_sizeOf _ | exact ns_isAgg _ | exact ns_loadCells _ _ | exact ns_storeCells _ _ _ | exact ns_loadVar _ _ | exact ns_storeVar _ _ _ | exact ns_newRow _ _ | exact ns_newVar _ _ | exact ns_elemOf _ | exact ns_part _ _ _ | exact ns_runtimePanic _ | exact ns_boundsPanic _ _ _ _ | exact ns_asIntOf _ | exact ns_asInt _ | exact ns_asBool _ | exact ns_asAgg _ | exact ns_asAddr _ | exact ns_sureAddr _ | exact ns_loadAt _ _ | exact ns_storeAt _ _ _ | exact ns_indexAt _ _ _ | exact ns_sliceBound _ _ _ | exact ns_sliceBounds _ _ _ _ _ _ | exact ns_slice _ _ _ _ _ | exact ns_sliceAt _ _ _ _ _ | exact ns_arrayAt _ _ | exact ns_alloc _ _ _ | exact ns_box _ _ | exact ns_build _ _ | exact ns_buildSlice _ _ _ | exact ns_extract _ _ | exact ns_field _ _ _ | exact ns_index _ _ _ | exact ns_makeFunc _ _ _ | exact ns_makeMap _ _ | exact ns_makeSlice _ _ _ | exact ns_makeInterface _ _ | exact ns_intArith _ _ _ _ | exact ns_intDiv _ _ _ _ | exact ns_intBits _ _ _ _ | exact ns_intCmp _ _ _ | exact ns_shift _ _ _ _ _ | exact ns_stringOp _ _ _ | exact ns_unary _ _ | exact ns_lenOf _ | exact ns_firstCells _ _ _ | exact ns_copy _ _ _ | exact ns_len _ _ _ | exact ns_cap _ _ _ | exact ns_shape hl _ | exact ns_frozen hl _ | exact ns_freeze hl _ _ | exact ns_new1 hl _ | exact ns_set1 hl _ _ | exact ns_viewAt hl _ | exact ns_numberAt hl _ | exact ns_cellsIn hl _ | exact ns_asNumber hl _ _ | exact ns_behind hl _ | exact ns_noView hl _ | exact ns_markS hl _ | exact ns_stringish hl _ | exact ns_mayBeOne hl _ _ | exact ns_sameAddr hl _ _ | exact ns_samePointer hl _ _ | exact ns_holdsCells hl _ _ | exact ns_mayShare hl _ _ _ _ _ | exact ns_append _ _ _ | exact ns_typeStr hl _ | exact ns_byteOf hl _ | exact ns_equalIn hl _ _ _ _ | exact ns_eqGuardIn hl _ _ _ _ | exact ns_equal hl _ _ _ | exact ns_eqGuard hl _ _ _ _ _ _ | exact ns_partAt hl _ _ _ | exact ns_fieldPlace hl _ _ | exact ns_fieldAt hl _ _ _ | exact ns_floatCmp _ _ _ _ | exact ns_cmp _ _ _ _ | exact ns_complexEq (by simp) _ _ _ _ _ | refine NS.bind ?_ (fun _ => ?_) | refine ns_ite ?_ ?_) | split | dsimp only)
theorem ns_min2 (x y : Value) : NS l P (Builtin.min2 x y) := by
  unfold Builtin.min2
  repeat' (first | with_reducible (first | assumption | exact ns_pure _ | exact ns_map (ns_choose _) | exact ns_map (ns_choose _) | exact ns_stuck _ | exact ns_uns _ | exact ns_goPanic _ | exact ns_program | exact ns_load _ _ | exact ns_store _ _ _ | exact ns_choose _ | exact ns_getObj _ | exact ns_cells _ _ | exact ns_mapO _ _ | exact ns_setMap _ _ _ | exact ns_room _ | exact ns_newLoop _ | exact ns_newDef _ | exact ns_setLoop _ _ | exact ns_setDef _ _ | exact ns_typeInfo _ | exact ns_underlying _ | exact ns_zeroValue _ | exact ns_sizeOf _ | exact ns_isAgg _ | exact ns_loadCells _ _ | exact ns_storeCells _ _ _ | exact ns_loadVar _ _ | exact ns_storeVar _ _ _ | exact ns_newRow _ _ | exact ns_newVar _ _ | exact ns_elemOf _ | exact ns_part _ _ _ | exact ns_runtimePanic _ | exact ns_boundsPanic _ _ _ _ | exact ns_asIntOf _ | exact ns_asInt _ | exact ns_asBool _ | exact ns_asAgg _ | exact ns_asAddr _ | exact ns_sureAddr _ | exact ns_loadAt _ _ | exact ns_storeAt _ _ _ | exact ns_indexAt _ _ _ | exact ns_sliceBound _ _ _ | exact ns_sliceBounds _ _ _ _ _ _ | exact ns_slice _ _ _ _ _ | exact ns_sliceAt _ _ _ _ _ | exact ns_arrayAt _ _ | exact ns_alloc _ _ _ | exact ns_box _ _ | exact ns_build _ _ | exact ns_buildSlice _ _ _ | exact ns_extract _ _ | exact ns_field _ _ _ | exact ns_index _ _ _ | exact ns_makeFunc _ _ _ | exact ns_makeMap _ _ | exact ns_makeSlice _ _ _ | exact ns_makeInterface _ _ | exact ns_intArith _ _ _ _ | exact ns_intDiv _ _ _ _ | exact ns_intBits _ _ _ _ | exact ns_intCmp _ _ _ | exact ns_shift _ _ _ _ _ | exact ns_stringOp _ _ _ | exact ns_unary _ _ | exact ns_lenOf _ | exact ns_firstCells _ _ _ | exact ns_copy _ _ _ | exact ns_len _ _ _ | exact ns_cap _ _ _ | exact ns_shape hl _ | exact ns_frozen hl _ | exact ns_freeze hl _ _ | exact ns_new1 hl _ | exact ns_set1 hl _ _ | exact ns_viewAt hl _ | exact ns_numberAt hl _ | exact ns_cellsIn hl _ | exact ns_asNumber hl _ _ | exact ns_behind hl _ | exact ns_noView hl _ | exact ns_markS hl _ | exact ns_stringish hl _ | exact ns_mayBeOne hl _ _ | exact ns_sameAddr hl _ _ | exact ns_samePointer hl _ _ | exact ns_holdsCells hl _ _ | exact ns_mayShare hl _ _ _ _ _ | exact ns_append _ _ _ | exact ns_typeStr hl _ | exact ns_byteOf hl _ | exact ns_equalIn hl _ _ _ _ | exact ns_eqGuardIn hl _ _ _ _ | exact ns_equal hl _ _ _ | exact ns_eqGuard hl _ _ _ _ _ _ | exact ns_partAt hl _ _ _ | exact ns_fieldPlace hl _ _ | exact ns_fieldAt hl _ _ _ | exact ns_floatCmp _ _ _ _ | exact ns_cmp _ _ _ _ | exact ns_complexEq (by simp) _ _ _ _ _ | refine NS.bind ?_ (fun _ => ?_) | refine ns_ite ?_ ?_) | split | dsimp only)
theorem ns_max2 (x y : Value) : NS l P (Builtin.max2 x y) := by
  unfold Builtin.max2
  repeat' (first | with_reducible (first | assumption | exact ns_pure _ | exact ns_map (ns_choose _) | exact ns_map (ns_choose _) | exact ns_stuck _ | exact ns_uns _ | exact ns_goPanic _ | exact ns_program | exact ns_load _ _ | exact ns_store _ _ _ | exact ns_choose _ | exact ns_getObj _ | exact ns_cells _ _ | exact ns_mapO _ _ | exact ns_setMap _ _ _ | exact ns_room _ | exact ns_newLoop _ | exact ns_newDef _ | exact ns_setLoop _ _ | exact ns_setDef _ _ | exact ns_typeInfo _ | exact ns_underlying _ | exact ns_zeroValue _ | exact ns_sizeOf _ | exact ns_isAgg _ | exact ns_loadCells _ _ | exact ns_storeCells _ _ _ | exact ns_loadVar _ _ | exact ns_storeVar _ _ _ | exact ns_newRow _ _ | exact ns_newVar _ _ | exact ns_elemOf _ | exact ns_part _ _ _ | exact ns_runtimePanic _ | exact ns_boundsPanic _ _ _ _ | exact ns_asIntOf _ | exact ns_asInt _ | exact ns_asBool _ | exact ns_asAgg _ | exact ns_asAddr _ | exact ns_sureAddr _ | exact ns_loadAt _ _ | exact ns_storeAt _ _ _ | exact ns_indexAt _ _ _ | exact ns_sliceBound _ _ _ | exact ns_sliceBounds _ _ _ _ _ _ | exact ns_slice _ _ _ _ _ | exact ns_sliceAt _ _ _ _ _ | exact ns_arrayAt _ _ | exact ns_alloc _ _ _ | exact ns_box _ _ | exact ns_build _ _ | exact ns_buildSlice _ _ _ | exact ns_extract _ _ | exact ns_field _ _ _ | exact ns_index _ _ _ | exact ns_makeFunc _ _ _ | exact ns_makeMap _ _ | exact ns_makeSlice _ _ _ | exact ns_makeInterface _ _ | exact ns_intArith _ _ _ _ | exact ns_intDiv _ _ _ _ | exact ns_intBits _ _ _ _ | exact ns_intCmp _ _ _ | exact ns_shift _ _ _ _ _ | exact ns_stringOp _ _ _ | exact ns_unary _ _ | exact ns_lenOf _ | exact ns_firstCells _ _ _ | exact ns_copy _ _ _ | exact ns_len _ _ _ | exact ns_cap _ _ _ | exact ns_shape hl _ | exact ns_frozen hl _ | exact ns_freeze hl _ _ | exact ns_new1 hl _ | exact ns_set1 hl _ _ | exact ns_viewAt hl _ | exact ns_numberAt hl _ | exact ns_cellsIn hl _ | exact ns_asNumber hl _ _ | exact ns_behind hl _ | exact ns_noView hl _ | exact ns_markS hl _ | exact ns_stringish hl _ | exact ns_mayBeOne hl _ _ | exact ns_sameAddr hl _ _ | exact ns_samePointer hl _ _ | exact ns_holdsCells hl _ _ | exact ns_mayShare hl _ _ _ _ _ | exact ns_append _ _ _ | exact ns_typeStr hl _ | exact ns_byteOf hl _ | exact ns_equalIn hl _ _ _ _ | exact ns_eqGuardIn hl _ _ _ _ | exact ns_equal hl _ _ _ | exact ns_eqGuard hl _ _ _ _ _ _ | exact ns_partAt hl _ _ _ | exact ns_fieldPlace hl _ _ | exact ns_fieldAt hl _ _ _ | exact ns_floatCmp _ _ _ _ | exact ns_cmp _ _ _ _ | exact ns_complexEq (by simp) _ _ _ _ _ | exact ns_min2 _ _ | refine NS.bind ?_ (fun _ => ?_) | refine ns_ite ?_ ?_) | split | dsimp only)
theorem ns_foldlM {α β : Type} {f : β → α → Sem β} (hf : ∀ b a, NS l P (f b a)) : ∀ {as : List α} {b : β}, NS l P (as.foldlM f b)
  | [], b => ns_pure _
  | a :: as, b => by rw [List.foldlM_cons]; exact NS.bind (hf b a) fun _ => ns_foldlM hf
theorem ns_min (a : Array TypeId) (t : TypeId) (v : Array Value) : NS l P (Builtin.min_ a t v) := by
  unfold Builtin.min_
  split
  · exact ns_stuck _
  · exact ns_foldlM fun _ _ => ns_min2 _ _
theorem ns_max (a : Array TypeId) (t : TypeId) (v : Array Value) : NS l P (Builtin.max_ a t v) := by
  unfold Builtin.max_
  split
  · exact ns_stuck _
  · exact ns_foldlM fun _ _ => ns_max2 _ _
theorem ns_checkKey (hl : l ≤ 1) (e : Bool) : ∀ (d : Nat) (t : TypeId) (v : Value), NS l P (Instr.checkKey e d t v)
  | 0, _, _ => trivial
  | d + 1, t, v => by
    have ih := ns_checkKey hl e d
    unfold Instr.checkKey
    repeat' (first | with_reducible (first | assumption | exact ih _ _ | refine NS.bind (ns_forIn fun _ _ => ?_) (fun _ => ?_) | refine NS.bind (ns_forR fun _ _ => ?_) (fun _ => ?_) | refine ns_forIn fun _ _ => ?_ | refine ns_forR fun _ _ => ?_ | exact ns_pure _ | exact ns_map (ns_choose _) | exact ns_map (ns_choose _) | exact ns_stuck _ | exact ns_uns _ | exact ns_goPanic _ | exact ns_program | exact ns_load _ _ | exact ns_store _ _ _ | exact ns_choose _ | exact ns_getObj _ | exact ns_cells _ _ | exact ns_mapO _ _ | exact ns_setMap _ _ _ | exact ns_room _ | exact ns_newLoop _ | exact ns_newDef _ | exact ns_setLoop _ _ | exact ns_setDef _ _ | exact ns_typeInfo _ | exact ns_underlying _ | exact ns_zeroValue _ | exact ns_sizeOf _ | exact ns_isAgg _ | exact ns_loadCells _ _ | exact ns_storeCells _ _ _ | exact ns_loadVar _ _ | exact ns_storeVar _ _ _ | exact ns_newRow _ _ | exact ns_newVar _ _ | exact ns_elemOf _ | exact ns_part _ _ _ | exact ns_runtimePanic _ | exact ns_boundsPanic _ _ _ _ | exact ns_asIntOf _ | exact ns_asInt _ | exact ns_asBool _ | exact ns_asAgg _ | exact ns_asAddr _ | exact ns_sureAddr _ | exact ns_loadAt _ _ | exact ns_storeAt _ _ _ | exact ns_indexAt _ _ _ | exact ns_sliceBound _ _ _ | exact ns_sliceBounds _ _ _ _ _ _ | exact ns_slice _ _ _ _ _ | exact ns_sliceAt _ _ _ _ _ | exact ns_arrayAt _ _ | exact ns_alloc _ _ _ | exact ns_box _ _ | exact ns_build _ _ | exact ns_buildSlice _ _ _ | exact ns_extract _ _ | exact ns_field _ _ _ | exact ns_index _ _ _ | exact ns_makeFunc _ _ _ | exact ns_makeMap _ _ | exact ns_makeSlice _ _ _ | exact ns_makeInterface _ _ | exact ns_intArith _ _ _ _ | exact ns_intDiv _ _ _ _ | exact ns_intBits _ _ _ _ | exact ns_intCmp _ _ _ | exact ns_shift _ _ _ _ _ | exact ns_stringOp _ _ _ | exact ns_unary _ _ | exact ns_lenOf _ | exact ns_firstCells _ _ _ | exact ns_copy _ _ _ | exact ns_len _ _ _ | exact ns_cap _ _ _ | exact ns_shape hl _ | exact ns_frozen hl _ | exact ns_freeze hl _ _ | exact ns_new1 hl _ | exact ns_set1 hl _ _ | exact ns_viewAt hl _ | exact ns_numberAt hl _ | exact ns_cellsIn hl _ | exact ns_asNumber hl _ _ | exact ns_behind hl _ | exact ns_noView hl _ | exact ns_markS hl _ | exact ns_stringish hl _ | exact ns_mayBeOne hl _ _ | exact ns_sameAddr hl _ _ | exact ns_samePointer hl _ _ | exact ns_holdsCells hl _ _ | exact ns_mayShare hl _ _ _ _ _ | exact ns_append _ _ _ | exact ns_typeStr hl _ | exact ns_byteOf hl _ | exact ns_equalIn hl _ _ _ _ | exact ns_eqGuardIn hl _ _ _ _ | exact ns_equal hl _ _ _ | exact ns_eqGuard hl _ _ _ _ _ _ | exact ns_partAt hl _ _ _ | exact ns_fieldPlace hl _ _ | exact ns_fieldAt hl _ _ _ | exact ns_floatCmp _ _ _ _ | exact ns_cmp _ _ _ _ | exact ns_complexEq (by simp) _ _ _ _ _ | exact ns_min2 _ _ | exact ns_max2 _ _ | refine NS.bind ?_ (fun _ => ?_) | refine ns_ite ?_ ?_) | split | dsimp only)
theorem ns_findAsking (hl : l ≤ 1) (t : TypeId) (v : Value) : ∀ (es : List MapEntry) (i : Nat), NS l P (Instr.findAsking t v es i)
  | [], _ => ns_pure _
  | e :: es, i => by
    unfold Instr.findAsking
    refine NS.bind (ns_equal hl _ _ _) fun _ => ?_
    split
    · exact ns_pure _
    · exact ns_findAsking hl t v es _
theorem ns_findKey (hl : l ≤ 1) (t : TypeId) (v : Value) (es : List MapEntry) : NS l P (Instr.findKey t v es) := by
  unfold Instr.findKey
  repeat' (first | with_reducible (first | assumption | exact ns_pure _ | exact ns_map (ns_choose _) | exact ns_map (ns_choose _) | exact ns_stuck _ | exact ns_uns _ | exact ns_goPanic _ | exact ns_program | exact ns_load _ _ | exact ns_store _ _ _ | exact ns_choose _ | exact ns_getObj _ | exact ns_cells _ _ | exact ns_mapO _ _ | exact ns_setMap _ _ _ | exact ns_room _ | exact ns_newLoop _ | exact ns_newDef _ | exact ns_setLoop _ _ | exact ns_setDef _ _ | exact ns_typeInfo _ | exact ns_underlying _ | exact ns_zeroValue _ | exact ns_sizeOf _ | exact ns_isAgg _ | exact ns_loadCells _ _ | exact ns_storeCells _ _ _ | exact ns_loadVar _ _ | exact ns_storeVar _ _ _ | exact ns_newRow _ _ | exact ns_newVar _ _ | exact ns_elemOf _ | exact ns_part _ _ _ | exact ns_runtimePanic _ | exact ns_boundsPanic _ _ _ _ | exact ns_asIntOf _ | exact ns_asInt _ | exact ns_asBool _ | exact ns_asAgg _ | exact ns_asAddr _ | exact ns_sureAddr _ | exact ns_loadAt _ _ | exact ns_storeAt _ _ _ | exact ns_indexAt _ _ _ | exact ns_sliceBound _ _ _ | exact ns_sliceBounds _ _ _ _ _ _ | exact ns_slice _ _ _ _ _ | exact ns_sliceAt _ _ _ _ _ | exact ns_arrayAt _ _ | exact ns_alloc _ _ _ | exact ns_box _ _ | exact ns_build _ _ | exact ns_buildSlice _ _ _ | exact ns_extract _ _ | exact ns_field _ _ _ | exact ns_index _ _ _ | exact ns_makeFunc _ _ _ | exact ns_makeMap _ _ | exact ns_makeSlice _ _ _ | exact ns_makeInterface _ _ | exact ns_intArith _ _ _ _ | exact ns_intDiv _ _ _ _ | exact ns_intBits _ _ _ _ | exact ns_intCmp _ _ _ | exact ns_shift _ _ _ _ _ | exact ns_stringOp _ _ _ | exact ns_unary _ _ | exact ns_lenOf _ | exact ns_firstCells _ _ _ | exact ns_copy _ _ _ | exact ns_len _ _ _ | exact ns_cap _ _ _ | exact ns_shape hl _ | exact ns_frozen hl _ | exact ns_freeze hl _ _ | exact ns_new1 hl _ | exact ns_set1 hl _ _ | exact ns_viewAt hl _ | exact ns_numberAt hl _ | exact ns_cellsIn hl _ | exact ns_asNumber hl _ _ | exact ns_behind hl _ | exact ns_noView hl _ | exact ns_markS hl _ | exact ns_stringish hl _ | exact ns_mayBeOne hl _ _ | exact ns_sameAddr hl _ _ | exact ns_samePointer hl _ _ | exact ns_holdsCells hl _ _ | exact ns_mayShare hl _ _ _ _ _ | exact ns_append _ _ _ | exact ns_typeStr hl _ | exact ns_byteOf hl _ | exact ns_equalIn hl _ _ _ _ | exact ns_eqGuardIn hl _ _ _ _ | exact ns_equal hl _ _ _ | exact ns_eqGuard hl _ _ _ _ _ _ | exact ns_partAt hl _ _ _ | exact ns_fieldPlace hl _ _ | exact ns_fieldAt hl _ _ _ | exact ns_floatCmp _ _ _ _ | exact ns_cmp _ _ _ _ | exact ns_complexEq (by simp) _ _ _ _ _ | exact ns_min2 _ _ | exact ns_max2 _ _ | exact ns_checkKey hl _ _ _ _ | exact ns_findAsking hl _ _ _ _ | refine NS.bind ?_ (fun _ => ?_) | refine ns_ite ?_ ?_) | split | dsimp only)
theorem ns_lookup (hl : l ≤ 1) (t : TypeId) (v x : Value) (b : Bool) : NS l P (Instr.lookup t v x b) := by
  unfold Instr.lookup
  repeat' (first | with_reducible (first | assumption | exact ns_pure _ | exact ns_map (ns_choose _) | exact ns_map (ns_choose _) | exact ns_stuck _ | exact ns_uns _ | exact ns_goPanic _ | exact ns_program | exact ns_load _ _ | exact ns_store _ _ _ | exact ns_choose _ | exact ns_getObj _ | exact ns_cells _ _ | exact ns_mapO _ _ | exact ns_setMap _ _ _ | exact ns_room _ | exact ns_newLoop _ | exact ns_newDef _ | exact ns_setLoop _ _ | exact ns_setDef _ _ | exact ns_typeInfo _ | exact ns_underlying _ | exact ns_zeroValue _ | exact ns_sizeOf _ | exact ns_isAgg _ | exact ns_loadCells _ _ | exact ns_storeCells _ _ _ | exact ns_loadVar _ _ | exact ns_storeVar _ _ _ | exact ns_newRow _ _ | exact ns_newVar _ _ | exact ns_elemOf _ | exact ns_part _ _ _ | exact ns_runtimePanic _ | exact ns_boundsPanic _ _ _ _ | exact ns_asIntOf _ | exact ns_asInt _ | exact ns_asBool _ | exact ns_asAgg _ | exact ns_asAddr _ | exact ns_sureAddr _ | exact ns_loadAt _ _ | exact ns_storeAt _ _ _ | exact ns_indexAt _ _ _ | exact ns_sliceBound _ _ _ | exact ns_sliceBounds _ _ _ _ _ _ | exact ns_slice _ _ _ _ _ | exact ns_sliceAt _ _ _ _ _ | exact ns_arrayAt _ _ | exact ns_alloc _ _ _ | exact ns_box _ _ | exact ns_build _ _ | exact ns_buildSlice _ _ _ | exact ns_extract _ _ | exact ns_field _ _ _ | exact ns_index _ _ _ | exact ns_makeFunc _ _ _ | exact ns_makeMap _ _ | exact ns_makeSlice _ _ _ | exact ns_makeInterface _ _ | exact ns_intArith _ _ _ _ | exact ns_intDiv _ _ _ _ | exact ns_intBits _ _ _ _ | exact ns_intCmp _ _ _ | exact ns_shift _ _ _ _ _ | exact ns_stringOp _ _ _ | exact ns_unary _ _ | exact ns_lenOf _ | exact ns_firstCells _ _ _ | exact ns_copy _ _ _ | exact ns_len _ _ _ | exact ns_cap _ _ _ | exact ns_shape hl _ | exact ns_frozen hl _ | exact ns_freeze hl _ _ | exact ns_new1 hl _ | exact ns_set1 hl _ _ | exact ns_viewAt hl _ | exact ns_numberAt hl _ | exact ns_cellsIn hl _ | exact ns_asNumber hl _ _ | exact ns_behind hl _ | exact ns_noView hl _ | exact ns_markS hl _ | exact ns_stringish hl _ | exact ns_mayBeOne hl _ _ | exact ns_sameAddr hl _ _ | exact ns_samePointer hl _ _ | exact ns_holdsCells hl _ _ | exact ns_mayShare hl _ _ _ _ _ | exact ns_append _ _ _ | exact ns_typeStr hl _ | exact ns_byteOf hl _ | exact ns_equalIn hl _ _ _ _ | exact ns_eqGuardIn hl _ _ _ _ | exact ns_equal hl _ _ _ | exact ns_eqGuard hl _ _ _ _ _ _ | exact ns_partAt hl _ _ _ | exact ns_fieldPlace hl _ _ | exact ns_fieldAt hl _ _ _ | exact ns_floatCmp _ _ _ _ | exact ns_cmp _ _ _ _ | exact ns_complexEq (by simp) _ _ _ _ _ | exact ns_min2 _ _ | exact ns_max2 _ _ | exact ns_checkKey hl _ _ _ _ | exact ns_findAsking hl _ _ _ _ | exact ns_findKey hl _ _ _ | refine NS.bind ?_ (fun _ => ?_) | refine ns_ite ?_ ?_) | split | dsimp only)
theorem ns_keyStays (_hl : l ≤ 1) (v x : Value) : NS l P (Instr.keyThatStays v x) := by
  unfold Instr.keyThatStays
  repeat' (first | with_reducible (first | assumption | exact ns_pure _ | exact ns_map (ns_choose _) | exact ns_map (ns_choose _) | exact ns_stuck _ | exact ns_uns _ | exact ns_goPanic _ | exact ns_program | exact ns_load _ _ | exact ns_store _ _ _ | exact ns_choose _ | exact ns_getObj _ | exact ns_cells _ _ | exact ns_mapO _ _ | exact ns_setMap _ _ _ | exact ns_room _ | exact ns_newLoop _ | exact ns_newDef _ | exact ns_setLoop _ _ | exact ns_setDef _ _ | exact ns_typeInfo _ | exact ns_underlying _ | exact ns_zeroValue _ | exact ns_sizeOf _ | exact ns_isAgg _ | exact ns_loadCells _ _ | exact ns_storeCells _ _ _ | exact ns_loadVar _ _ | exact ns_storeVar _ _ _ | exact ns_newRow _ _ | exact ns_newVar _ _ | exact ns_elemOf _ | exact ns_part _ _ _ | exact ns_runtimePanic _ | exact ns_boundsPanic _ _ _ _ | exact ns_asIntOf _ | exact ns_asInt _ | exact ns_asBool _ | exact ns_asAgg _ | exact ns_asAddr _ | exact ns_sureAddr _ | exact ns_loadAt _ _ | exact ns_storeAt _ _ _ | exact ns_indexAt _ _ _ | exact ns_sliceBound _ _ _ | exact ns_sliceBounds _ _ _ _ _ _ | exact ns_slice _ _ _ _ _ | exact ns_sliceAt _ _ _ _ _ | exact ns_arrayAt _ _ | exact ns_alloc _ _ _ | exact ns_box _ _ | exact ns_build _ _ | exact ns_buildSlice _ _ _ | exact ns_extract _ _ | exact ns_field _ _ _ | exact ns_index _ _ _ | exact ns_makeFunc _ _ _ | exact ns_makeMap _ _ | exact ns_makeSlice _ _ _ | exact ns_makeInterface _ _ | exact ns_intArith _ _ _ _ | exact ns_intDiv _ _ _ _ | exact ns_intBits _ _ _ _ | exact ns_intCmp _ _ _ | exact ns_shift _ _ _ _ _ | exact ns_stringOp _ _ _ | exact ns_unary _ _ | exact ns_lenOf _ | exact ns_firstCells _ _ _ | exact ns_copy _ _ _ | exact ns_len _ _ _ | exact ns_cap _ _ _ | exact ns_shape hl _ | exact ns_frozen hl _ | exact ns_freeze hl _ _ | exact ns_new1 hl _ | exact ns_set1 hl _ _ | exact ns_viewAt hl _ | exact ns_numberAt hl _ | exact ns_cellsIn hl _ | exact ns_asNumber hl _ _ | exact ns_behind hl _ | exact ns_noView hl _ | exact ns_markS hl _ | exact ns_stringish hl _ | exact ns_mayBeOne hl _ _ | exact ns_sameAddr hl _ _ | exact ns_samePointer hl _ _ | exact ns_holdsCells hl _ _ | exact ns_mayShare hl _ _ _ _ _ | exact ns_append _ _ _ | exact ns_typeStr hl _ | exact ns_byteOf hl _ | exact ns_equalIn hl _ _ _ _ | exact ns_eqGuardIn hl _ _ _ _ | exact ns_equal hl _ _ _ | exact ns_eqGuard hl _ _ _ _ _ _ | exact ns_partAt hl _ _ _ | exact ns_fieldPlace hl _ _ | exact ns_fieldAt hl _ _ _ | exact ns_floatCmp _ _ _ _ | exact ns_cmp _ _ _ _ | exact ns_complexEq (by simp) _ _ _ _ _ | exact ns_min2 _ _ | exact ns_max2 _ _ | exact ns_checkKey hl _ _ _ _ | exact ns_findAsking hl _ _ _ _ | exact ns_findKey hl _ _ _ | exact ns_lookup hl _ _ _ _ | refine NS.bind ?_ (fun _ => ?_) | refine ns_ite ?_ ?_) | split | dsimp only)
theorem ns_mapUpdate (hl : l ≤ 1) (t : TypeId) (v x y : Value) : NS l P (Instr.mapUpdate t v x y) := by
  unfold Instr.mapUpdate
  repeat' (first | with_reducible (first | assumption | exact ns_pure _ | exact ns_map (ns_choose _) | exact ns_map (ns_choose _) | exact ns_stuck _ | exact ns_uns _ | exact ns_goPanic _ | exact ns_program | exact ns_load _ _ | exact ns_store _ _ _ | exact ns_choose _ | exact ns_getObj _ | exact ns_cells _ _ | exact ns_mapO _ _ | exact ns_setMap _ _ _ | exact ns_room _ | exact ns_newLoop _ | exact ns_newDef _ | exact ns_setLoop _ _ | exact ns_setDef _ _ | exact ns_typeInfo _ | exact ns_underlying _ | exact ns_zeroValue _ | exact ns_sizeOf _ | exact ns_isAgg _ | exact ns_loadCells _ _ | exact ns_storeCells _ _ _ | exact ns_loadVar _ _ | exact ns_storeVar _ _ _ | exact ns_newRow _ _ | exact ns_newVar _ _ | exact ns_elemOf _ | exact ns_part _ _ _ | exact ns_runtimePanic _ | exact ns_boundsPanic _ _ _ _ | exact ns_asIntOf _ | exact ns_asInt _ | exact ns_asBool _ | exact ns_asAgg _ | exact ns_asAddr _ | exact ns_sureAddr _ | exact ns_loadAt _ _ | exact ns_storeAt _ _ _ | exact ns_indexAt _ _ _ | exact ns_sliceBound _ _ _ | exact ns_sliceBounds _ _ _ _ _ _ | exact ns_slice _ _ _ _ _ | exact ns_sliceAt _ _ _ _ _ | exact ns_arrayAt _ _ | exact ns_alloc _ _ _ | exact ns_box _ _ | exact ns_build _ _ | exact ns_buildSlice _ _ _ | exact ns_extract _ _ | exact ns_field _ _ _ | exact ns_index _ _ _ | exact ns_makeFunc _ _ _ | exact ns_makeMap _ _ | exact ns_makeSlice _ _ _ | exact ns_makeInterface _ _ | exact ns_intArith _ _ _ _ | exact ns_intDiv _ _ _ _ | exact ns_intBits _ _ _ _ | exact ns_intCmp _ _ _ | exact ns_shift _ _ _ _ _ | exact ns_stringOp _ _ _ | exact ns_unary _ _ | exact ns_lenOf _ | exact ns_firstCells _ _ _ | exact ns_copy _ _ _ | exact ns_len _ _ _ | exact ns_cap _ _ _ | exact ns_shape hl _ | exact ns_frozen hl _ | exact ns_freeze hl _ _ | exact ns_new1 hl _ | exact ns_set1 hl _ _ | exact ns_viewAt hl _ | exact ns_numberAt hl _ | exact ns_cellsIn hl _ | exact ns_asNumber hl _ _ | exact ns_behind hl _ | exact ns_noView hl _ | exact ns_markS hl _ | exact ns_stringish hl _ | exact ns_mayBeOne hl _ _ | exact ns_sameAddr hl _ _ | exact ns_samePointer hl _ _ | exact ns_holdsCells hl _ _ | exact ns_mayShare hl _ _ _ _ _ | exact ns_append _ _ _ | exact ns_typeStr hl _ | exact ns_byteOf hl _ | exact ns_equalIn hl _ _ _ _ | exact ns_eqGuardIn hl _ _ _ _ | exact ns_equal hl _ _ _ | exact ns_eqGuard hl _ _ _ _ _ _ | exact ns_partAt hl _ _ _ | exact ns_fieldPlace hl _ _ | exact ns_fieldAt hl _ _ _ | exact ns_floatCmp _ _ _ _ | exact ns_cmp _ _ _ _ | exact ns_complexEq (by simp) _ _ _ _ _ | exact ns_min2 _ _ | exact ns_max2 _ _ | exact ns_checkKey hl _ _ _ _ | exact ns_findAsking hl _ _ _ _ | exact ns_findKey hl _ _ _ | exact ns_lookup hl _ _ _ _ | exact ns_keyStays hl _ _ | refine NS.bind ?_ (fun _ => ?_) | refine ns_ite ?_ ?_) | split | dsimp only)
theorem ns_bytesToString (v : Value) : NS l P (Conv.bytesToString v) := by
  unfold Conv.bytesToString
  repeat' (first | with_reducible (first | assumption | refine NS.bind (ns_forIn fun _ _ => ?_) (fun _ => ?_) | exact ns_pure _ | exact ns_map (ns_choose _) | exact ns_map (ns_choose _) | exact ns_stuck _ | exact ns_uns _ | exact ns_goPanic _ | exact ns_program | exact ns_load _ _ | exact ns_store _ _ _ | exact ns_choose _ | exact ns_getObj _ | exact ns_cells _ _ | exact ns_mapO _ _ | exact ns_setMap _ _ _ | exact ns_room _ | exact ns_newLoop _ | exact ns_newDef _ | exact ns_setLoop _ _ | exact ns_setDef _ _ | exact ns_typeInfo _ | exact ns_underlying _ | exact ns_zeroValue _ | exact ns_sizeOf _ | exact ns_isAgg _ | exact ns_loadCells _ _ | exact ns_storeCells _ _ _ | exact ns_loadVar _ _ | exact ns_storeVar _ _ _ | exact ns_newRow _ _ | exact ns_newVar _ _ | exact ns_elemOf _ | exact ns_part _ _ _ | exact ns_runtimePanic _ | exact ns_boundsPanic _ _ _ _ | exact ns_asIntOf _ | exact ns_asInt _ | exact ns_asBool _ | exact ns_asAgg _ | exact ns_asAddr _ | exact ns_sureAddr _ | exact ns_loadAt _ _ | exact ns_storeAt _ _ _ | exact ns_indexAt _ _ _ | exact ns_sliceBound _ _ _ | exact ns_sliceBounds _ _ _ _ _ _ | exact ns_slice _ _ _ _ _ | exact ns_sliceAt _ _ _ _ _ | exact ns_arrayAt _ _ | exact ns_alloc _ _ _ | exact ns_box _ _ | exact ns_build _ _ | exact ns_buildSlice _ _ _ | exact ns_extract _ _ | exact ns_field _ _ _ | exact ns_index _ _ _ | exact ns_makeFunc _ _ _ | exact ns_makeMap _ _ | exact ns_makeSlice _ _ _ | exact ns_makeInterface _ _ | exact ns_intArith _ _ _ _ | exact ns_intDiv _ _ _ _ | exact ns_intBits _ _ _ _ | exact ns_intCmp _ _ _ | exact ns_shift _ _ _ _ _ | exact ns_stringOp _ _ _ | exact ns_unary _ _ | exact ns_lenOf _ | exact ns_firstCells _ _ _ | exact ns_copy _ _ _ | exact ns_len _ _ _ | exact ns_cap _ _ _ | exact ns_shape hl _ | exact ns_frozen hl _ | exact ns_freeze hl _ _ | exact ns_new1 hl _ | exact ns_set1 hl _ _ | exact ns_viewAt hl _ | exact ns_numberAt hl _ | exact ns_cellsIn hl _ | exact ns_asNumber hl _ _ | exact ns_behind hl _ | exact ns_noView hl _ | exact ns_markS hl _ | exact ns_stringish hl _ | exact ns_mayBeOne hl _ _ | exact ns_sameAddr hl _ _ | exact ns_samePointer hl _ _ | exact ns_holdsCells hl _ _ | exact ns_mayShare hl _ _ _ _ _ | exact ns_append _ _ _ | exact ns_typeStr hl _ | exact ns_byteOf hl _ | exact ns_equalIn hl _ _ _ _ | exact ns_eqGuardIn hl _ _ _ _ | exact ns_equal hl _ _ _ | exact ns_eqGuard hl _ _ _ _ _ _ | exact ns_partAt hl _ _ _ | exact ns_fieldPlace hl _ _ | exact ns_fieldAt hl _ _ _ | exact ns_floatCmp _ _ _ _ | exact ns_cmp _ _ _ _ | exact ns_complexEq (by simp) _ _ _ _ _ | exact ns_min2 _ _ | exact ns_max2 _ _ | exact ns_checkKey hl _ _ _ _ | exact ns_findAsking hl _ _ _ _ | exact ns_findKey hl _ _ _ | exact ns_lookup hl _ _ _ _ | exact ns_keyStays hl _ _ | exact ns_mapUpdate hl _ _ _ _ | refine NS.bind ?_ (fun _ => ?_) | refine ns_ite ?_ ?_) | split | dsimp only)
theorem ns_runesToString (v : Value) : NS l P (Conv.runesToString v) := by
  unfold Conv.runesToString
  repeat' (first | with_reducible (first | assumption | refine NS.bind (ns_forIn fun _ _ => ?_) (fun _ => ?_) | exact ns_pure _ | exact ns_map (ns_choose _) | exact ns_map (ns_choose _) | exact ns_stuck _ | exact ns_uns _ | exact ns_goPanic _ | exact ns_program | exact ns_load _ _ | exact ns_store _ _ _ | exact ns_choose _ | exact ns_getObj _ | exact ns_cells _ _ | exact ns_mapO _ _ | exact ns_setMap _ _ _ | exact ns_room _ | exact ns_newLoop _ | exact ns_newDef _ | exact ns_setLoop _ _ | exact ns_setDef _ _ | exact ns_typeInfo _ | exact ns_underlying _ | exact ns_zeroValue _ | exact ns_sizeOf _ | exact ns_isAgg _ | exact ns_loadCells _ _ | exact ns_storeCells _ _ _ | exact ns_loadVar _ _ | exact ns_storeVar _ _ _ | exact ns_newRow _ _ | exact ns_newVar _ _ | exact ns_elemOf _ | exact ns_part _ _ _ | exact ns_runtimePanic _ | exact ns_boundsPanic _ _ _ _ | exact ns_asIntOf _ | exact ns_asInt _ | exact ns_asBool _ | exact ns_asAgg _ | exact ns_asAddr _ | exact ns_sureAddr _ | exact ns_loadAt _ _ | exact ns_storeAt _ _ _ | exact ns_indexAt _ _ _ | exact ns_sliceBound _ _ _ | exact ns_sliceBounds _ _ _ _ _ _ | exact ns_slice _ _ _ _ _ | exact ns_sliceAt _ _ _ _ _ | exact ns_arrayAt _ _ | exact ns_alloc _ _ _ | exact ns_box _ _ | exact ns_build _ _ | exact ns_buildSlice _ _ _ | exact ns_extract _ _ | exact ns_field _ _ _ | exact ns_index _ _ _ | exact ns_makeFunc _ _ _ | exact ns_makeMap _ _ | exact ns_makeSlice _ _ _ | exact ns_makeInterface _ _ | exact ns_intArith _ _ _ _ | exact ns_intDiv _ _ _ _ | exact ns_intBits _ _ _ _ | exact ns_intCmp _ _ _ | exact ns_shift _ _ _ _ _ | exact ns_stringOp _ _ _ | exact ns_unary _ _ | exact ns_lenOf _ | exact ns_firstCells _ _ _ | exact ns_copy _ _ _ | exact ns_len _ _ _ | exact ns_cap _ _ _ | exact ns_shape hl _ | exact ns_frozen hl _ | exact ns_freeze hl _ _ | exact ns_new1 hl _ | exact ns_set1 hl _ _ | exact ns_viewAt hl _ | exact ns_numberAt hl _ | exact ns_cellsIn hl _ | exact ns_asNumber hl _ _ | exact ns_behind hl _ | exact ns_noView hl _ | exact ns_markS hl _ | exact ns_stringish hl _ | exact ns_mayBeOne hl _ _ | exact ns_sameAddr hl _ _ | exact ns_samePointer hl _ _ | exact ns_holdsCells hl _ _ | exact ns_mayShare hl _ _ _ _ _ | exact ns_append _ _ _ | exact ns_typeStr hl _ | exact ns_byteOf hl _ | exact ns_equalIn hl _ _ _ _ | exact ns_eqGuardIn hl _ _ _ _ | exact ns_equal hl _ _ _ | exact ns_eqGuard hl _ _ _ _ _ _ | exact ns_partAt hl _ _ _ | exact ns_fieldPlace hl _ _ | exact ns_fieldAt hl _ _ _ | exact ns_floatCmp _ _ _ _ | exact ns_cmp _ _ _ _ | exact ns_complexEq (by simp) _ _ _ _ _ | exact ns_min2 _ _ | exact ns_max2 _ _ | exact ns_checkKey hl _ _ _ _ | exact ns_findAsking hl _ _ _ _ | exact ns_findKey hl _ _ _ | exact ns_lookup hl _ _ _ _ | exact ns_keyStays hl _ _ | exact ns_mapUpdate hl _ _ _ _ | exact ns_bytesToString _ | refine NS.bind ?_ (fun _ => ?_) | refine ns_ite ?_ ?_) | split | dsimp only)
theorem ns_intToString (n : Int) : NS l P (Conv.intToString n) := by
  unfold Conv.intToString
  repeat' (first | with_reducible (first | assumption | exact ns_pure _ | exact ns_map (ns_choose _) | exact ns_map (ns_choose _) | exact ns_stuck _ | exact ns_uns _ | exact ns_goPanic _ | exact ns_program | exact ns_load _ _ | exact ns_store _ _ _ | exact ns_choose _ | exact ns_getObj _ | exact ns_cells _ _ | exact ns_mapO _ _ | exact ns_setMap _ _ _ | exact ns_room _ | exact ns_newLoop _ | exact ns_newDef _ | exact ns_setLoop _ _ | exact ns_setDef _ _ | exact ns_typeInfo _ | exact ns_underlying _ | exact ns_zeroValue _ | exact ns_sizeOf _ | exact ns_isAgg _ | exact ns_loadCells _ _ | exact ns_storeCells _ _ _ | exact ns_loadVar _ _ | exact ns_storeVar _ _ _ | exact ns_newRow _ _ | exact ns_newVar _ _ | exact ns_elemOf _ | exact ns_part _ _ _ | exact ns_runtimePanic _ | exact ns_boundsPanic _ _ _ _ | exact ns_asIntOf _ | exact ns_asInt _ | exact ns_asBool _ | exact ns_asAgg _ | exact ns_asAddr _ | exact ns_sureAddr _ | exact ns_loadAt _ _ | exact ns_storeAt _ _ _ | exact ns_indexAt _ _ _ | exact ns_sliceBound _ _ _ | exact ns_sliceBounds _ _ _ _ _ _ | exact ns_slice _ _ _ _ _ | exact ns_sliceAt _ _ _ _ _ | exact ns_arrayAt _ _ | exact ns_alloc _ _ _ | exact ns_box _ _ | exact ns_build _ _ | exact ns_buildSlice _ _ _ | exact ns_extract _ _ | exact ns_field _ _ _ | exact ns_index _ _ _ | exact ns_makeFunc _ _ _ | exact ns_makeMap _ _ | exact ns_makeSlice _ _ _ | exact ns_makeInterface _ _ | exact ns_intArith _ _ _ _ | exact ns_intDiv _ _ _ _ | exact ns_intBits _ _ _ _ | exact ns_intCmp _ _ _ | exact ns_shift _ _ _ _ _ | exact ns_stringOp _ _ _ | exact ns_unary _ _ | exact ns_lenOf _ | exact ns_firstCells _ _ _ | exact ns_copy _ _ _ | exact ns_len _ _ _ | exact ns_cap _ _ _ | exact ns_shape hl _ | exact ns_frozen hl _ | exact ns_freeze hl _ _ | exact ns_new1 hl _ | exact ns_set1 hl _ _ | exact ns_viewAt hl _ | exact ns_numberAt hl _ | exact ns_cellsIn hl _ | exact ns_asNumber hl _ _ | exact ns_behind hl _ | exact ns_noView hl _ | exact ns_markS hl _ | exact ns_stringish hl _ | exact ns_mayBeOne hl _ _ | exact ns_sameAddr hl _ _ | exact ns_samePointer hl _ _ | exact ns_holdsCells hl _ _ | exact ns_mayShare hl _ _ _ _ _ | exact ns_append _ _ _ | exact ns_typeStr hl _ | exact ns_byteOf hl _ | exact ns_equalIn hl _ _ _ _ | exact ns_eqGuardIn hl _ _ _ _ | exact ns_equal hl _ _ _ | exact ns_eqGuard hl _ _ _ _ _ _ | exact ns_partAt hl _ _ _ | exact ns_fieldPlace hl _ _ | exact ns_fieldAt hl _ _ _ | exact ns_floatCmp _ _ _ _ | exact ns_cmp _ _ _ _ | exact ns_complexEq (by simp) _ _ _ _ _ | exact ns_min2 _ _ | exact ns_max2 _ _ | exact ns_checkKey hl _ _ _ _ | exact ns_findAsking hl _ _ _ _ | exact ns_findKey hl _ _ _ | exact ns_lookup hl _ _ _ _ | exact ns_keyStays hl _ _ | exact ns_mapUpdate hl _ _ _ _ | exact ns_bytesToString _ | exact ns_runesToString _ | refine NS.bind ?_ (fun _ => ?_) | refine ns_ite ?_ ?_) | split | dsimp only)
theorem ns_getLoop (x : Nat) : NS l P (Instr.getLoop x) := by
  unfold Instr.getLoop
  repeat' (first | with_reducible (first | assumption | exact ns_pure _ | exact ns_map (ns_choose _) | exact ns_map (ns_choose _) | exact ns_stuck _ | exact ns_uns _ | exact ns_goPanic _ | exact ns_program | exact ns_load _ _ | exact ns_store _ _ _ | exact ns_choose _ | exact ns_getObj _ | exact ns_cells _ _ | exact ns_mapO _ _ | exact ns_setMap _ _ _ | exact ns_room _ | exact ns_newLoop _ | exact ns_newDef _ | exact ns_setLoop _ _ | exact ns_setDef _ _ | exact ns_typeInfo _ | exact ns_underlying _ | exact ns_zeroValue _ | exact ns_sizeOf _ | exact ns_isAgg _ | exact ns_loadCells _ _ | exact ns_storeCells _ _ _ | exact ns_loadVar _ _ | exact ns_storeVar _ _ _ | exact ns_newRow _ _ | exact ns_newVar _ _ | exact ns_elemOf _ | exact ns_part _ _ _ | exact ns_runtimePanic _ | exact ns_boundsPanic _ _ _ _ | exact ns_asIntOf _ | exact ns_asInt _ | exact ns_asBool _ | exact ns_asAgg _ | exact ns_asAddr _ | exact ns_sureAddr _ | exact ns_loadAt _ _ | exact ns_storeAt _ _ _ | exact ns_indexAt _ _ _ | exact ns_sliceBound _ _ _ | exact ns_sliceBounds _ _ _ _ _ _ | exact ns_slice _ _ _ _ _ | exact ns_sliceAt _ _ _ _ _ | exact ns_arrayAt _ _ | exact ns_alloc _ _ _ | exact ns_box _ _ | exact ns_build _ _ | exact ns_buildSlice _ _ _ | exact ns_extract _ _ | exact ns_field _ _ _ | exact ns_index _ _ _ | exact ns_makeFunc _ _ _ | exact ns_makeMap _ _ | exact ns_makeSlice _ _ _ | exact ns_makeInterface _ _ | exact ns_intArith _ _ _ _ | exact ns_intDiv _ _ _ _ | exact ns_intBits _ _ _ _ | exact ns_intCmp _ _ _ | exact ns_shift _ _ _ _ _ | exact ns_stringOp _ _ _ | exact ns_unary _ _ | exact ns_lenOf _ | exact ns_firstCells _ _ _ | exact ns_copy _ _ _ | exact ns_len _ _ _ | exact ns_cap _ _ _ | exact ns_shape hl _ | exact ns_frozen hl _ | exact ns_freeze hl _ _ | exact ns_new1 hl _ | exact ns_set1 hl _ _ | exact ns_viewAt hl _ | exact ns_numberAt hl _ | exact ns_cellsIn hl _ | exact ns_asNumber hl _ _ | exact ns_behind hl _ | exact ns_noView hl _ | exact ns_markS hl _ | exact ns_stringish hl _ | exact ns_mayBeOne hl _ _ | exact ns_sameAddr hl _ _ | exact ns_samePointer hl _ _ | exact ns_holdsCells hl _ _ | exact ns_mayShare hl _ _ _ _ _ | exact ns_append _ _ _ | exact ns_typeStr hl _ | exact ns_byteOf hl _ | exact ns_equalIn hl _ _ _ _ | exact ns_eqGuardIn hl _ _ _ _ | exact ns_equal hl _ _ _ | exact ns_eqGuard hl _ _ _ _ _ _ | exact ns_partAt hl _ _ _ | exact ns_fieldPlace hl _ _ | exact ns_fieldAt hl _ _ _ | exact ns_floatCmp _ _ _ _ | exact ns_cmp _ _ _ _ | exact ns_complexEq (by simp) _ _ _ _ _ | exact ns_min2 _ _ | exact ns_max2 _ _ | exact ns_checkKey hl _ _ _ _ | exact ns_findAsking hl _ _ _ _ | exact ns_findKey hl _ _ _ | exact ns_lookup hl _ _ _ _ | exact ns_keyStays hl _ _ | exact ns_mapUpdate hl _ _ _ _ | exact ns_bytesToString _ | exact ns_runesToString _ | exact ns_intToString _ | refine NS.bind ?_ (fun _ => ?_) | refine ns_ite ?_ ?_) | split | dsimp only)
theorem ns_yield (x : Nat) (v : Array Value) : NS l P (Instr.yield x v) := by
  unfold Instr.yield
  repeat' (first | with_reducible (first | assumption | exact ns_pure _ | exact ns_map (ns_choose _) | exact ns_map (ns_choose _) | exact ns_stuck _ | exact ns_uns _ | exact ns_goPanic _ | exact ns_program | exact ns_load _ _ | exact ns_store _ _ _ | exact ns_choose _ | exact ns_getObj _ | exact ns_cells _ _ | exact ns_mapO _ _ | exact ns_setMap _ _ _ | exact ns_room _ | exact ns_newLoop _ | exact ns_newDef _ | exact ns_setLoop _ _ | exact ns_setDef _ _ | exact ns_typeInfo _ | exact ns_underlying _ | exact ns_zeroValue _ | exact ns_sizeOf _ | exact ns_isAgg _ | exact ns_loadCells _ _ | exact ns_storeCells _ _ _ | exact ns_loadVar _ _ | exact ns_storeVar _ _ _ | exact ns_newRow _ _ | exact ns_newVar _ _ | exact ns_elemOf _ | exact ns_part _ _ _ | exact ns_runtimePanic _ | exact ns_boundsPanic _ _ _ _ | exact ns_asIntOf _ | exact ns_asInt _ | exact ns_asBool _ | exact ns_asAgg _ | exact ns_asAddr _ | exact ns_sureAddr _ | exact ns_loadAt _ _ | exact ns_storeAt _ _ _ | exact ns_indexAt _ _ _ | exact ns_sliceBound _ _ _ | exact ns_sliceBounds _ _ _ _ _ _ | exact ns_slice _ _ _ _ _ | exact ns_sliceAt _ _ _ _ _ | exact ns_arrayAt _ _ | exact ns_alloc _ _ _ | exact ns_box _ _ | exact ns_build _ _ | exact ns_buildSlice _ _ _ | exact ns_extract _ _ | exact ns_field _ _ _ | exact ns_index _ _ _ | exact ns_makeFunc _ _ _ | exact ns_makeMap _ _ | exact ns_makeSlice _ _ _ | exact ns_makeInterface _ _ | exact ns_intArith _ _ _ _ | exact ns_intDiv _ _ _ _ | exact ns_intBits _ _ _ _ | exact ns_intCmp _ _ _ | exact ns_shift _ _ _ _ _ | exact ns_stringOp _ _ _ | exact ns_unary _ _ | exact ns_lenOf _ | exact ns_firstCells _ _ _ | exact ns_copy _ _ _ | exact ns_len _ _ _ | exact ns_cap _ _ _ | exact ns_shape hl _ | exact ns_frozen hl _ | exact ns_freeze hl _ _ | exact ns_new1 hl _ | exact ns_set1 hl _ _ | exact ns_viewAt hl _ | exact ns_numberAt hl _ | exact ns_cellsIn hl _ | exact ns_asNumber hl _ _ | exact ns_behind hl _ | exact ns_noView hl _ | exact ns_markS hl _ | exact ns_stringish hl _ | exact ns_mayBeOne hl _ _ | exact ns_sameAddr hl _ _ | exact ns_samePointer hl _ _ | exact ns_holdsCells hl _ _ | exact ns_mayShare hl _ _ _ _ _ | exact ns_append _ _ _ | exact ns_typeStr hl _ | exact ns_byteOf hl _ | exact ns_equalIn hl _ _ _ _ | exact ns_eqGuardIn hl _ _ _ _ | exact ns_equal hl _ _ _ | exact ns_eqGuard hl _ _ _ _ _ _ | exact ns_partAt hl _ _ _ | exact ns_fieldPlace hl _ _ | exact ns_fieldAt hl _ _ _ | exact ns_floatCmp _ _ _ _ | exact ns_cmp _ _ _ _ | exact ns_complexEq (by simp) _ _ _ _ _ | exact ns_min2 _ _ | exact ns_max2 _ _ | exact ns_checkKey hl _ _ _ _ | exact ns_findAsking hl _ _ _ _ | exact ns_findKey hl _ _ _ | exact ns_lookup hl _ _ _ _ | exact ns_keyStays hl _ _ | exact ns_mapUpdate hl _ _ _ _ | exact ns_bytesToString _ | exact ns_runesToString _ | exact ns_intToString _ | exact ns_getLoop _ | refine NS.bind ?_ (fun _ => ?_) | refine ns_ite ?_ ?_) | split | dsimp only)
theorem ns_under {α : Type} {t : TypeId} {d : TypeDesc} {f : TypeDesc → Sem α} (h : P.underlying t = some d) (hf : NS l P (f d)) : NS l P (underlying t >>= f) := by
  unfold underlying
  show NS l P ((match P.underlying t with | some d => pure d | none => stuck "no such type" : Sem TypeDesc) >>= f)
  rw [h]
  exact hf
theorem ns_size {α : Type} {t : TypeId} {i : TypeInfo} {f : Nat → Sem α} (h : P.info? t = some i) (hf : NS l P (f i.size)) : NS l P (sizeOf t >>= f) := by
  unfold sizeOf typeInfo
  show NS l P (((match P.info? t with | some i => pure i | none => stuck "no such type" : Sem TypeInfo) >>= fun x => pure x.size) >>= f)
  rw [h]
  exact hf
end
end Go.Ax

namespace Go.Ax
open Go Go.RowKit
section
variable {P : Program} {J : Judg P} {Q : Exit → Act → World → Prop}
theorem ns_results {l : Nat} (fn : Func) (tmps : Array Value) : NS l P (results fn tmps) := by
  unfold results
  refine NS.bind (ns_mapM fun r => ?_) fun _ => ns_pure _
  cases r with
  | tmp t => exact ns_pure _
  | cell a t => exact NS.bind (ns_asAddr _) fun _ => ns_loadVar _ _
theorem Judg.okStep {S : SetS} {fr : Frame} {cs : List Frame} {w : World} {α : Type} (hS : J.closed S) (s : Sem α) (f : α → Frame × List Frame) (hns : 1 ≤ J.lvl → NS J.lvl P s)
    (hstep : ∀ w v w', s.run P w = .ok v w' → ∃ es, stepG P J.main (gor fr cs) w = .go (gor (f v).1 (f v).2) w' es ∧ ∀ e ∈ es, e ∈ (s.runT P w #[]).2)
    (h : ∀ w1, J.rel w w1 → ∃ v w', s.run P w1 = .ok v w' ∧ S (f v).1 (f v).2 w') : S fr cs w := by
  refine J.sem S fr cs w α s (fun r => ∃ v, r = .ok v) (fun r => match r with | .ok v => f v | .error _ => (fr, cs)) hS hns (fun m h => by obtain ⟨_, h⟩ := h; cases h) (fun m h => by obtain ⟨_, h⟩ := h; cases h) (fun w hw => ?_) (fun w1 h1 => ?_)
  · obtain ⟨v, hv⟩ := hw
    cases hr : s.run P w with
    | ok v' w' =>
      obtain ⟨es, h1, h2⟩ := hstep w v' w' hr
      exact ⟨es, h1, h2⟩
    | halt x w' => rw [hr] at hv; cases hv
  · obtain ⟨v, w', hv, hn⟩ := h w1 h1
    rw [hv]
    exact ⟨⟨v, rfl⟩, hn⟩
theorem runT_of {α : Type} {s : Sem α} {w w' : World} {v : α} (h : s.run P w = .ok v w') : s.runT P w #[] = (.ok v w', (s.runT P w #[]).2) := by rw [Sem.runT_eq, h]
theorem seen_runT {α : Type} {fn : FuncId} {s : Sem α} {w : World} : ∀ e ∈ seen P fn (s.runT P w #[]).2, e ∈ (s.runT P w #[]).2 := fun e he => seen_sub e he
def leftBy : Option Value → FrameMode
  | none => .returning
  | some v => .panicking [{ v, recovered := false }]
def DefJ (J : Judg P) (g : FuncId) (args : Array Value) (pv : Option Value) (w : World) (R : World → Prop) : Prop :=
  ∀ (fr : Frame) (cs : List Frame) (S : SetS), J.closed S → fr.mode = leftBy pv → (∀ w', R w' → S { fr with mode := .returning } cs w') → S (Frame.enter P g args .deferred) (fr :: cs) w
def leavesJ (J : Judg P) (fn : Func) (tmps : Array Value) (R : Ending → World → Prop) : List Deferred → Option Value → World → Prop
  | [], none, w => ∀ w1, J.rel w w1 → ∃ v, (results fn tmps).run P w1 = .ok v w1 ∧ R (.returned v) w1
  | [], some v, w => R (.panicked [{ v, recovered := false }]) w
  | d :: ds, pv, w =>
    (∃ r, d = { target := .collected r, args := #[] } ∧ ∀ w1, J.rel w w1 → w1.heap[r]? = some (.deferred (some [])) ∧ leavesJ J fn tmps R ds pv (w1.putObj r (.deferred none))) ∨
    (∃ g gn caps vals, d = { target := .fn (.func g) caps, args := vals } ∧ P.funcs[g]? = some gn ∧ (gn.name == "runtime.NumGoroutine") = false ∧ gn.body.isSome = true ∧
      ∀ w1, J.rel w w1 → DefJ J g (vals ++ caps) pv w1 fun w' => leavesJ J fn tmps R ds none w')
theorem callFunc_runT {g : FuncId} {gn : Func} {args : Array Value} {w : World} (hfn : P.funcs[g]? = some gn) (hname : (gn.name == "runtime.NumGoroutine") = false) (hb : gn.body.isSome = true) : (callFunc g args).runT P w #[] = (.ok (.enter g args) w, #[]) := by
  have hbn : gn.body.isNone = false := by cases hq : gn.body <;> simp [hq] at hb ⊢
  unfold callFunc
  show (match P.funcs[g]? with
    | none => stuck "call: no such function"
    | some fn => _ : Sem Next).runT P w #[] = _
  rw [hfn]
  simp only [hname, hbn, Bool.false_eq_true, if_false]
  rfl
theorem ns_callFunc {l : Nat} {g : FuncId} {gn : Func} {args : Array Value} (hfn : P.funcs[g]? = some gn) (hname : (gn.name == "runtime.NumGoroutine") = false) (hb : gn.body.isSome = true) : NS l P (callFunc g args) := by
  have hbn : gn.body.isNone = false := by cases hq : gn.body <;> simp [hq] at hb ⊢
  unfold callFunc
  show NS l P (match P.funcs[g]? with
    | none => stuck "call: no such function"
    | some fn => _ : Sem Next)
  rw [hfn]
  simp only [hname, hbn, Bool.false_eq_true, if_false]
  trivial
def AtEnd (J : Judg P) (f : FuncId) (R : Ending → World → Prop) (fr : Frame) (w : World) : Prop :=
  fr.fn = f ∧ fr.kind = .normal ∧ fr.defers = [] ∧ ∃ fn, P.funcs[f]? = some fn ∧
    ((fr.mode = .returning ∧ ∀ w1, J.rel w w1 → ∃ v, (results fn fr.tmps).run P w1 = .ok v w1 ∧ R (.returned v) w1) ∨
     (∃ v, fr.mode = .panicking [{ v, recovered := false }] ∧ R (.panicked [{ v, recovered := false }]) w))
def CallsL (J : Judg P) (f : FuncId) (args : Array Value) (w : World) (R : Ending → World → Prop) : Prop :=
  ∀ (cs : List Frame) (S : SetS), J.closed S → (∀ fr w', AtEnd J f R fr w' → S fr cs w') → S (Frame.enter P f args .normal) cs w
theorem leavesL_sound {f : FuncId} {fn : Func} {R : Ending → World → Prop} {S : SetS} (hS : J.closed S) {cs : List Frame} (hf : P.funcs[f]? = some fn) (hR : ∀ fr w', AtEnd J f R fr w' → S fr cs w') :
    ∀ (ds : List Deferred) (pv : Option Value) (fr : Frame) (w : World), fr.fn = f → fr.mode = leftBy pv → fr.kind = .normal → fr.defers = ds → leavesJ J fn fr.tmps R ds pv w → S fr cs w
  | [], none, fr, w, hff, hm, hk, hd, h => hR _ _ ⟨hff, hk, hd, fn, hf, .inl ⟨hm, h⟩⟩
  | [], some v, fr, w, hff, hm, hk, hd, h => hR _ _ ⟨hff, hk, hd, fn, hf, .inr ⟨v, hm, h⟩⟩
  | d :: ds, pv, fr, w, hff, hm, hk, hd, h => by
    have hst : ∀ w, stepG P J.main (gor fr cs) w = unwind P J.main fr cs none w := fun w => by
      unfold stepG
      cases pv <;> simp only [leftBy] at hm <;> simp only [gor, hm]
    rcases h with ⟨r, rfl, h⟩ | ⟨g, gn, caps, vals, rfl, hg, hname, hb, h⟩
    · refine J.okStep hS (Instr.takeDeferred r) (fun calls => ({ fr with defers := calls ++ ds }, cs)) (fun _ => ?_) (fun w v w' hv => ⟨seen P fr.fn ((Instr.takeDeferred r).runT P w #[]).2, ?_, seen_runT⟩) fun w1 h1 => ?_
      · unfold Instr.takeDeferred
        refine NS.bind (ns_getObj _) fun _ => ?_
        split
        · exact NS.bind (ns_setDef _ _) fun _ => ns_pure _
        · exact ns_stuck _
      · have e0 := runT_of hv
        rw [hst]
        unfold unwind
        simp only [hd]
        rw [e0]
        simp only [GStep.after, Array.append_empty, gor]
      · obtain ⟨hh, hn⟩ := h w1 h1
        exact ⟨[], _, run_takeDeferred (P := P) hh, leavesL_sound hS hf hR ds pv { fr with defers := [] ++ ds } _ hff hm hk rfl hn⟩
    · refine J.okStep hS (callFunc g (vals ++ caps)) (fun nx => match nx with | .enter f args => (Frame.enter P f args .deferred, { fr with defers := ds } :: cs) | _ => (fr, cs)) (fun _ => ns_callFunc hg hname hb) (fun w v w' hv => ⟨#[], ?_, by simp⟩) fun w1 h1 => ?_
      · have e0 := callFunc_runT (args := vals ++ caps) (w := w) hg hname hb
        have e1 : (callFunc g (vals ++ caps)).run P w = .ok (.enter g (vals ++ caps)) w := by rw [← Sem.runT_fst P _ w #[], e0]
        rw [e1] at hv
        cases hv
        rw [hst]
        unfold unwind
        simp only [hd]
        unfold callDeferred
        show (if ((match (Target.fn (Fn.func g) caps) with | .nil => true | _ => false) && _) = true then _ else _) = _
        simp only [Bool.false_and, Bool.false_eq_true, if_false]
        unfold invoke
        simp only [e0, seen, GStep.after, gor]
        simp
      · have e0 := callFunc_runT (args := vals ++ caps) (w := w1) hg hname hb
        refine ⟨.enter g (vals ++ caps), w1, by rw [← Sem.runT_fst P _ w1 #[], e0], ?_⟩
        refine h w1 h1 { fr with defers := ds } cs S hS hm fun w' hw' => ?_
        exact leavesL_sound hS hf hR ds none { { fr with defers := ds } with mode := .returning } _ hff rfl hk rfl hw'
theorem AtEnd.back {f : FuncId} {R : Ending → World → Prop} {S : SetS} (hS : J.closed S) {c : Frame} {cs : List Frame} (hR : ∀ e w', R e w' → Back S c cs e w') {fr : Frame} {w : World} (h : AtEnd J f R fr w) : S fr (c :: cs) w := by
  obtain ⟨hff, hk, hd, fn, hf, h⟩ := h
  subst hff
  rcases h with ⟨hm, h⟩ | ⟨v, hm, h⟩
  · refine J.okStep hS (results fn fr.tmps) (fun v => (c.finish v, cs)) (fun _ => ns_results _ _) (fun w v w' hv => ⟨seen P fr.fn ((results fn fr.tmps).runT P w #[]).2, ?_, seen_runT⟩) fun w1 h1 => ?_
    · have e0 := runT_of hv
      unfold stepG
      simp only [gor, hm]
      unfold unwind
      simp only [hd, hm, hf]
      rw [e0]
      simp only [doReturn, hk, GStep.after, Array.append_empty]
    · obtain ⟨v, hv, hv2⟩ := h w1 h1
      exact ⟨v, w1, hv, hR _ _ hv2⟩
  · refine J.move hS (fr' := c.raise [{ v, recovered := false }]) (cs' := cs) (fun w => ?_) (hR _ _ h)
    unfold stepG
    simp only [gor, hm]
    unfold unwind
    simp [hd, hm, Frame.catches, hf]
theorem CallsL.calls {f : FuncId} {args : Array Value} {w : World} {R : Ending → World → Prop} (h : CallsL J f args w R) : CallsJ J f args w R :=
  fun c cs S hS hR => h (c :: cs) S hS fun _ _ hE => hE.back hS hR
theorem AtEnd.mono {f : FuncId} {R R' : Ending → World → Prop} (hr : ∀ e w', R e w' → R' e w') {fr : Frame} {w : World} (h : AtEnd J f R fr w) : AtEnd J f R' fr w := by
  obtain ⟨h1, h2, h3, fn, h4, h⟩ := h
  refine ⟨h1, h2, h3, fn, h4, ?_⟩
  rcases h with ⟨hm, h⟩ | ⟨v, hm, h⟩
  · exact .inl ⟨hm, fun w1 hw => by obtain ⟨v, q1, q2⟩ := h w1 hw; exact ⟨v, q1, hr _ _ q2⟩⟩
  · exact .inr ⟨v, hm, hr _ _ h⟩
theorem CallsL.mono {f : FuncId} {args : Array Value} {w : World} {R R' : Ending → World → Prop} (h : CallsL J f args w R) (hr : ∀ e w', R e w' → R' e w') : CallsL J f args w R' :=
  fun cs S hS hR => h cs S hS fun fr w' q => hR fr w' (q.mono hr)
def bodyPostJ (J : Judg P) (fn : Func) (R : Ending → World → Prop) : Exit → Act → World → Prop
  | .normal, a, w => leavesJ J fn a.tmps R a.defers none w
  | .ret, a, w => leavesJ J fn a.tmps R a.defers none w
  | .panic ch, a, w => ∃ v, ch = [{ v, recovered := false }] ∧ leavesJ J fn a.tmps R a.defers (some v) w
  | _, _, _ => False
theorem callsL_of_wp {f : FuncId} {fn : Func} {c : Code} {args : Array Value} {w : World} {R : Ending → World → Prop} (hf : P.funcs[f]? = some fn) (hb : fn.body = some c)
    (h : wpJ J c (bodyPostJ J fn R) { tmps := args ++ Array.replicate (fn.ntmps - args.size) undef, defers := [] } w) : CallsL J f args w R := by
  intro cs S hS hR
  let b : Frame := { (default : Frame) with fn := f, kind := .normal, roundOf := none }
  have henter : Frame.enter P f args .normal = b.atR { tmps := args ++ Array.replicate (fn.ntmps - args.size) undef, defers := [] } [.code c] := by
    simp [Frame.enter, Frame.atR, hf, hb, b]
  rw [henter]
  refine h b [] cs S (.inl rfl) hS fun e a' w' q => ?_
  cases e with
  | normal =>
    refine J.move hS (fr' := { b.atR a' [] with mode := .returning }) (cs' := cs) (fun w => by simp [stepG, stepG.exec, Frame.atR, gor, b]) ?_
    exact leavesL_sound hS hf hR _ none _ _ rfl rfl rfl rfl q
  | ret =>
    intro k0
    refine J.move hS (fr' := { b.atR a' (.code .ret :: k0) with mode := .returning }) (cs' := cs) (fun w => by simp [stepG, stepG.exec, Frame.atR, gor, b]) ?_
    exact leavesL_sound hS hf hR _ none _ _ rfl rfl rfl rfl q
  | panic ch =>
    intro todo
    obtain ⟨v, rfl, hq⟩ := q
    exact leavesL_sound hS hf hR _ (some v) _ _ rfl rfl rfl rfl hq
  | exit id => exact q.elim
  | goto l => exact q.elim
  | outgrown => trivial
def roundEnd (J : Judg P) (l : Nat) (R : Ending → World → Prop) (jump : Option Code) (w : World) : Prop :=
  ∀ w1, J.rel w w1 → ∃ r : Loop, w1.heap[l]? = some (.loop r) ∧ R (.returned (.bool jump.isNone)) (w1.putObj l (.loop { r with state := if jump.isNone then .ready else .done, pending := jump }))
theorem ns_endRound {l : Nat} {x : Nat} {j : Option Code} : NS l P (Instr.endRound x j) := by
  unfold Instr.endRound Instr.getLoop
  refine NS.bind (NS.bind (ns_getObj _) fun _ => ?_) fun _ => NS.bind (ns_setLoop _ _) fun _ => ns_pure _
  split
  · exact ns_pure _
  · exact ns_stuck _
theorem roundEnd_sound {l : Nat} {R : Ending → World → Prop} {S : SetS} (hS : J.closed S) {c : Frame} {cs : List Frame} (hR : ∀ e w', R e w' → Back S c cs e w') {jump : Option Code} {fr : Frame} {w : World} (hk : fr.kind = .normal)
    (hstep : ∀ w, stepG P J.main (gor fr (c :: cs)) w = GStep.after (seen P fr.fn ((Instr.endRound l jump).runT P w #[]).2) (match ((Instr.endRound l jump).runT P w #[]).1 with
        | .ok v w => doReturn P J.main fr (c :: cs) none v w
        | .halt _ w => .ended (.stuck "range over a function: no such loop" (fr.pos P)) w))
    (h : roundEnd J l R jump w) : S fr (c :: cs) w := by
  refine J.okStep hS (Instr.endRound l jump) (fun v => (c.finish v, cs)) (fun _ => ns_endRound) (fun w v w' hv => ⟨seen P fr.fn ((Instr.endRound l jump).runT P w #[]).2, ?_, seen_runT⟩) fun w1 h1 => ?_
  · have e0 := runT_of hv
    rw [hstep w, e0]
    simp only [doReturn, hk, GStep.after, Array.append_empty, gor]
  · obtain ⟨r, hr, hq⟩ := h w1 h1
    exact ⟨_, _, run_endRound (P := P) jump hr, hR _ _ hq⟩
def roundPost (J : Judg P) (l : Nat) (R : Ending → World → Prop) : Exit → Act → World → Prop
  | .normal, _, w => roundEnd J l R none w
  | .ret, _, w => roundEnd J l R (some .ret) w
  | .exit id, _, w => roundEnd J l R (some (.exit id)) w
  | .goto t, _, w => roundEnd J l R (some (.goto t)) w
  | _, _, _ => False
theorem ns_beginRound {l x : Nat} : NS l P (Instr.beginRound x) := by
  unfold Instr.beginRound Instr.getLoop
  refine NS.bind (NS.bind (ns_getObj _) fun _ => ?_) fun _ => NS.bind (ns_setLoop _ _) fun _ => ?_
  · split
    · exact ns_pure _
    · exact ns_stuck _
  · split
    · exact ns_pure _
    · exact ns_runtimePanic _
    · exact ns_runtimePanic _
    · exact ns_runtimePanic _
def roundBegin (J : Judg P) (l : Nat) (R : Ending → World → Prop) (bd : Code) (a : Act) (w : World) : Prop :=
  ∀ w1, J.rel w w1 → ∃ r : Loop, w1.heap[l]? = some (.loop r) ∧ r.state = .ready ∧ wpJ J bd (roundPost J l R) a (w1.putObj l (.loop { r with state := .busy }))
theorem roundJ {l : Nat} {f : FuncId} {tmps : Array Value} {as bd : Code} {w : World} {R : Ending → World → Prop} (has : flatC as = true) (hbd : flatC bd = true)
    (h : wpJ J as (fun e a w => e = .normal ∧ roundBegin J l R bd a w) { tmps := tmps, defers := [] } w) : RoundJ J l f tmps as bd w R := by
  intro c cs S hS hR
  let b : Frame := { (default : Frame) with fn := f, kind := .normal, roundOf := some l }
  have henter : Frame.round l f tmps as bd .normal = b.atR { tmps := tmps, defers := [] } [.code as, .beginRound, .code bd] := rfl
  rw [henter]
  refine h b [.beginRound, .code bd] (c :: cs) S (.inr has) hS fun e a' w' q => ?_
  obtain ⟨rfl, q⟩ := q
  show S (b.atR a' [.beginRound, .code bd]) (c :: cs) w'
  refine J.opStep hS (s := do Instr.beginRound l; pure .skip) (fun w => by simp [stepG, stepG.exec, Frame.atR, gor, b]) (by simp [Frame.atR]) (fun _ => NS.bind ns_beginRound fun _ => ns_pure _) fun w1 h1 => ?_
  obtain ⟨r, hr, hst, hw⟩ := q w1 h1
  have hv : (do Instr.beginRound l; pure Next.skip : Sem Next).run P w1 = .ok .skip (w1.putObj l (.loop { r with state := .busy })) := by
    simp only [Sem.run_bind, run_beginRound (P := P) hr hst, Result.andThen_ok, Sem.run_pure]
  rw [hv]
  refine ⟨trivial, ?_⟩
  show S ((b.atR a' [.beginRound, .code bd]).finish undef) (c :: cs) _
  refine hw b [] (c :: cs) S (.inr hbd) hS fun e a2 w2 q2 => ?_
  cases e with
  | normal => exact roundEnd_sound hS hR rfl (fun w => by simp [stepG, stepG.exec, Frame.atR, gor, b]; rfl) q2
  | ret => exact fun k0 => roundEnd_sound hS hR rfl (fun w => by simp [stepG, stepG.exec, Frame.atR, gor, b]; rfl) q2
  | exit id => exact fun k0 hk => roundEnd_sound hS hR rfl (fun w => by simp [stepG, stepG.exec, Frame.atR, gor, b, show exitTo id k0 = none from hk]; rfl) q2
  | goto t => exact fun k0 hk => roundEnd_sound hS hR rfl (fun w => by simp [stepG, stepG.exec, Frame.atR, gor, b, show gotoIn t k0 = none from hk]; rfl) q2
  | panic ch => exact q2.elim
  | outgrown => trivial
theorem ns_endLoop {l x : Nat} : NS l P (Instr.endLoop x) := by
  unfold Instr.endLoop Instr.getLoop
  refine NS.bind (NS.bind (ns_getObj _) fun _ => ?_) fun _ => ?_
  · split
    · exact ns_pure _
    · exact ns_stuck _
  · dsimp only
    split
    · exact NS.bind (ns_runtimePanic _) fun _ => NS.bind (ns_setLoop _ _) fun _ => ns_pure _
    · exact NS.bind (ns_setLoop _ _) fun _ => ns_pure _
def loopEnd (J : Judg P) (l : Nat) (Q : Exit → Act → World → Prop) (a : Act) (w : World) : Prop :=
  ∀ w1, J.rel w w1 → ∃ r : Loop, w1.heap[l]? = some (.loop r) ∧ r.state ≠ .busy ∧ match r.pending with
    | none => Q .normal a (w1.putObj l (.loop { r with state := .exhausted }))
    | some .ret => Q .ret a (w1.putObj l (.loop { r with state := .exhausted }))
    | some (.exit id) => Q (.exit id) a (w1.putObj l (.loop { r with state := .exhausted }))
    | some (.goto t) => Q (.goto t) a (w1.putObj l (.loop { r with state := .exhausted }))
    | _ => False
theorem wpJ_rangeFunc {f : Operand} {g : FuncId} {fn : Func} {caps : Array Value} {ps : Array Tmp} {as bd : Code} {a : Act} {w : World} (hf : a.eval f = .func (.func g) #[] caps) (hfn : P.funcs[g]? = some fn) (hname : (fn.name == "runtime.NumGoroutine") = false) (hb : fn.body.isSome = true)
    (h : ∀ w1, J.rel w w1 → ∀ fid, CallsJ J g (#[.func (.yield (w1.heap.size + 1)) #[] #[]] ++ caps)
        ((w1.alloc (.deferred (some []))).alloc (.loop { state := .ready, pending := none, fn := fid, tmps := a.tmps, params := ps, assign := as, body := bd, defers := w1.heap.size }))
        (fun e w' => ∃ v, e = .returned v ∧ loopEnd J (w1.heap.size + 1) Q { a with defers := { target := .collected w1.heap.size, args := #[] } :: a.defers } w')) :
    wpJ J (.rangeFunc f ps as bd) Q a w := fun b k cs S hd hS hQ => by
  have hb0 : b.roundOf = none := hd.resolve_right (by simp [flatC])
  have hbn : fn.body.isNone = false := by cases hq : fn.body <;> simp [hq] at hb ⊢
  have he : (b.atR a (.code (.rangeFunc f ps as bd) :: k)).eval f = .func (.func g) #[] caps := by rw [Frame.eval_atR]; exact hf
  -- the one step: the record is laid, the function is entered
  let s2 : Nat → Sem Next := fun l => callFunc g (#[.func (.yield l) #[] #[]] ++ caps)
  let s : Sem ((Nat × List Deferred) × Next) := do
    let x ← Instr.enterLoop b.fn a.tmps ps as bd none
    let n ← s2 x.1
    pure (x, n)
  have hrun : ∀ w1 : World, s.runT P w1 #[] = (.ok ((w1.heap.size + 1, [{ target := .collected w1.heap.size, args := #[] }]), .enter g (#[.func (.yield (w1.heap.size + 1)) #[] #[]] ++ caps))
      ((w1.alloc (.deferred (some []))).alloc (.loop { state := .ready, pending := none, fn := b.fn, tmps := a.tmps, params := ps, assign := as, body := bd, defers := w1.heap.size })), #[]) := fun w1 => by
    have hr1 := run_enterLoop_outer (P := P) (w := w1) b.fn a.tmps ps as bd
    have ev0 : (Instr.enterLoop b.fn a.tmps ps as bd none).events P w1 #[] = #[] := by
      unfold Instr.enterLoop
      rfl
    have h2 := fun l w => callFunc_runT (P := P) (args := #[.func (.yield l) #[] #[]] ++ caps) (w := w) hfn hname hb
    show ((Instr.enterLoop b.fn a.tmps ps as bd none).bind fun x => (s2 x.1).bind fun n => Sem.pure (x, n)).runT P w1 #[] = _
    rw [Sem.runT_bind', Sem.runT_eq, hr1, ev0]
    dsimp only
    rw [Sem.runT_bind', h2]
    rfl
  have hrun1 : ∀ w1, s.run P w1 = _ := fun w1 => (Sem.runT_fst P s w1 #[]).symm.trans (congrArg Prod.fst (hrun w1))
  have hp : ∀ (fr : Frame) (l : Nat) (W : World), (fr.eval f = .func (.func g) #[] caps) → (do let d ← resolve fr.eval { callee := .value f, args := #[.const (.func (.yield l) #[] #[])], argTypes := #[] } 0; invoke d.target d.args : Sem Next).runT P W #[] = (.ok (.enter g (#[.func (.yield l) #[] #[]] ++ caps)) W, #[]) := by
    intro fr l W hfr
    have e1 : (do let d ← resolve fr.eval { callee := .value f, args := #[.const (.func (.yield l) #[] #[])], argTypes := #[] } 0; invoke d.target d.args : Sem Next) = callFunc g (#[.func (.yield l) #[] #[]] ++ caps) := by
      unfold resolve
      simp only [hfr, Deferred.ofValue]
      show callFunc g ((#[] ++ Array.map fr.eval #[.const (.func (.yield l) #[] #[])]) ++ caps) = _
      simp [Frame.eval]
    rw [e1]
    exact callFunc_runT hfn hname hb
  refine J.okStep hS s (fun x => match x.2 with | .enter g' args => (Frame.enter P g' args .normal, b.atR { a with defers := x.1.2 ++ a.defers } (.inRangeFunc x.1.1 :: k) :: cs) | _ => (b, cs)) (fun _ => ?_) (fun w1 v w' hv => ⟨#[], ?_, by simp⟩) fun w1 h1 => ?_
  · refine NS.bind ?_ fun x => NS.bind (ns_callFunc hfn hname hb) fun _ => ns_pure _
    unfold Instr.enterLoop
    repeat' (first | with_reducible (first | exact ns_pure _ | exact ns_newDef _ | exact ns_newLoop _ | refine NS.bind ?_ (fun _ => ?_)) | split | dsimp only)
  · rw [hrun1 w1] at hv
    cases hv
    have hr1 := run_enterLoop_outer (P := P) (w := w1) b.fn a.tmps ps as bd
    have ev0 : (Instr.enterLoop b.fn a.tmps ps as bd none).events P w1 #[] = #[] := by
      unfold Instr.enterLoop
      rfl
    generalize hW : ((w1.alloc (.deferred (some []))).alloc (.loop { state := .ready, pending := none, fn := b.fn, tmps := a.tmps, params := ps, assign := as, body := bd, defers := w1.heap.size })) = W at hr1
    have e0 : (Instr.enterLoop b.fn a.tmps ps as bd none).runT P w1 #[] = (.ok (w1.heap.size + 1, [{ target := .collected w1.heap.size, args := #[] }]) W, #[]) := by rw [Sem.runT_eq, hr1, ev0]
    have hp1 := hp ({ b.atR a (.code (.rangeFunc f ps as bd) :: k) with todo := .inRangeFunc (w1.heap.size + 1) :: k, defers := [{ target := .collected w1.heap.size, args := #[] }] ++ a.defers }) (w1.heap.size + 1) W (by rw [← he]; rfl)
    unfold stepG
    simp only [gor, Frame.atR]
    unfold stepG.exec
    simp only [hb0]
    rw [e0]
    simp only [GStep.after, seen]
    unfold stepG.apply
    simp only [Frame.atR, hb0] at hp1
    simp only [hp1, if_true]
    simp [seen, GStep.after]
  · refine ⟨_, _, hrun1 w1, ?_⟩
    let fr1 : Frame := b.atR { a with defers := [{ target := .collected w1.heap.size, args := #[] }] ++ a.defers } (.inRangeFunc (w1.heap.size + 1) :: k)
    show S (Frame.enter P g (#[.func (.yield (w1.heap.size + 1)) #[] #[]] ++ caps) .normal) (fr1 :: cs) _
    refine h w1 h1 b.fn fr1 cs S hS fun e w' q => ?_
    obtain ⟨v, rfl, q⟩ := q
    show S (fr1.finish v) cs w'
    have efin : fr1.finish v = b.atR { a with defers := { target := .collected w1.heap.size, args := #[] } :: a.defers } (.endRangeFunc (w1.heap.size + 1) :: k) := by
      simp [fr1, Frame.finish, Frame.atR]
    rw [efin]
    refine J.okStep hS (Instr.endLoop (w1.heap.size + 1)) (fun pend => (b.atR { a with defers := { target := .collected w1.heap.size, args := #[] } :: a.defers } ((pend.map Item.code).toList ++ k), cs)) (fun _ => ns_endLoop) (fun w2 v2 w3 hv2 => ⟨seen P b.fn ((Instr.endLoop (w1.heap.size + 1)).runT P w2 #[]).2, ?_, seen_runT⟩) fun w2 h2 => ?_
    · have e0 := runT_of hv2
      unfold stepG
      simp only [gor, Frame.atR]
      unfold stepG.exec
      simp only
      rw [e0]
      simp only [GStep.after, Array.append_empty]
    · obtain ⟨r, hr, hst, hq⟩ := q w2 h2
      refine ⟨_, _, run_endLoop (P := P) hr hst, ?_⟩
      cases hp : r.pending with
      | none => rw [hp] at hq; exact hQ _ _ _ hq
      | some j =>
        rw [hp] at hq
        cases j with
        | ret => exact hQ _ _ _ hq k
        | exit id => exact hQ _ _ _ hq k rfl
        | goto t => exact hQ _ _ _ hq k rfl
        | _ => exact hq.elim
end
end Go.Ax
