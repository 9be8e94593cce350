/- Contracts of loops, round after round, in a state of the loop's own: some slots, some blocks. -/
import Derived.Test.YtljchidgchjoeaaAx14
namespace Go.Ax
open Go Go.RowKit

/-! ## Other numbers for the same blocks -/

def CV.ren (f : Nat → Option Nat) : CV → Option CV
  | .p b o => match f b with | some b' => some (.p b' o) | none => none
  | .r v => some (.r v)
def renCVs (f : Nat → Option Nat) : List CV → Option (List CV)
  | [] => some []
  | c :: cs => match c.ren f, renCVs f cs with | some x, some xs => some (x :: xs) | _, _ => none
def SV.ren (f : Nat → Option Nat) : SV → SV
  | .ptr b o => match f b with | some b' => .ptr b' o | none => .any
  | .ptrS b o => match f b with | some b' => .ptrS b' o | none => .any
  | .ptrR b g o => match f b, f g with | some b', some g' => .ptrR b' g' o | _, _ => .any
  | .slice b o n c => match f b with | some b' => .slice b' o n c | none => .any
  | .slx b o n => match f b with | some b' => .slx b' o n | none => .any
  | .fn g caps => match renCVs f caps with | some l => .fn g l | none => .any
  | .sq b g o n => match f b, f g with | some b', some g' => .sq b' g' o n | _, _ => .any
  | .slq b o n => match f b with | some b' => .slq b' o n | none => .any
  | .slr b g o n => match f b, f g with | some b', some g' => .slr b' g' o n | _, _ => .any
  | .mp b => match f b with | some b' => .mp b' | none => .any
  | .yl b => match f b with | some b' => .yl b' | none => .any
  | s => s
def TV.ren (f : Nat → Option Nat) : TV → TV
  | .one s => .one (s.ren f)
  | .agg l => .agg (l.map (SV.ren f))
def AV.ren (f : Nat → Option Nat) : AV → AV
  | .one s => .one (s.ren f)
  | .agg l => .agg (l.map (SV.ren f))
  | .tup l => .tup (l.map (TV.ren f))
def AB.ren (f : Nat → Option Nat) : AB → AB
  | .gone => .gone
  | .cells t l => .cells t (l.map (SV.ren f))
  | .row t l => .row t (l.map (SV.ren f))
  | .ro l => .ro (l.map (SV.ren f))
  | .seq t k L g => match f g with | some g' => .seq t k L g' | none => .gone
  | .rseq k L g => match f g with | some g' => .rseq k L g' | none => .gone
  | .mp k kv es => .mp k kv es
  | .fz t l => .fz t (l.map (SV.ren f))
  | .ob .df => .ob .df
  | .ob (.lp ..) => .gone

section
variable {env env' : Nat → Nat} {m m' : Nat} {f : Nat → Option Nat}

/-- What new numbers have to be. -/
def RenOk (f : Nat → Option Nat) (env env' : Nat → Nat) (m' : Nat) : Prop := ∀ b b', f b = some b' → b' < m' ∧ env' b' = env b

theorem renCVs_ok (hf : RenOk f env env' m') : ∀ {l l' : List CV}, renCVs f l = some l' → (∀ c ∈ l', c.ok m') ∧ l'.map (CV.conc env') = l.map (CV.conc env)
  | [], l', h => by cases h; exact ⟨fun c hc => (by cases hc), rfl⟩
  | c :: cs, l', h => by
    simp only [renCVs] at h
    split at h
    · rename_i x xs hx hxs
      cases h
      obtain ⟨q1, q2⟩ := renCVs_ok hf hxs
      have : x.ok m' ∧ x.conc env' = c.conc env := by
        cases c with
        | p b o =>
          simp only [CV.ren] at hx
          split at hx
          · rename_i b' hb
            cases hx
            obtain ⟨p1, p2⟩ := hf b b' hb
            exact ⟨p1, by simp only [CV.conc, p2]⟩
          · cases hx
        | r v => cases hx; exact ⟨trivial, rfl⟩
      refine ⟨fun c hc => ?_, by rw [List.map_cons, List.map_cons, this.2, q2]⟩
      rcases List.mem_cons.1 hc with rfl | hc
      · exact this.1
      · exact q1 c hc
    · cases h

theorem SV.ren_R (hf : RenOk f env env' m') {s : SV} {v : Value} (h : s.R env m v) : (s.ren f).R env' m' v := by
  cases s with
  | any => trivial
  | li k n => exact h
  | si k n => exact h
  | lb b => exact h
  | sb b => exact h
  | raw v => exact h
  | e0 => exact h
  | st L => exact h
  | mp b =>
    simp only [SV.ren]
    split
    · rename_i b' hb; obtain ⟨q1, q2⟩ := hf b b' hb; obtain ⟨_, rfl⟩ := h; exact ⟨q1, by simp only [SV.conc, q2]⟩
    · trivial
  | yl b =>
    simp only [SV.ren]
    split
    · rename_i b' hb; obtain ⟨q1, q2⟩ := hf b b' hb; obtain ⟨_, rfl⟩ := h; exact ⟨q1, by simp only [SV.conc, q2]⟩
    · trivial
  | ptr b o =>
    simp only [SV.ren]
    split
    · rename_i b' hb; obtain ⟨q1, q2⟩ := hf b b' hb; obtain ⟨_, rfl⟩ := h; exact ⟨q1, by simp only [SV.conc, q2]⟩
    · trivial
  | ptrS b o =>
    simp only [SV.ren]
    split
    · rename_i b' hb; obtain ⟨q1, q2⟩ := hf b b' hb; obtain ⟨_, rfl⟩ := h; exact ⟨q1, by simp only [SV.conc, q2]⟩
    · trivial
  | ptrR b g o =>
    simp only [SV.ren]
    split
    · rename_i b' g' hb hg
      obtain ⟨q1, q2⟩ := hf b b' hb
      obtain ⟨q3, q4⟩ := hf g g' hg
      obtain ⟨_, rfl⟩ := h
      exact ⟨⟨q1, q3⟩, by simp only [SV.conc, q2, q4]⟩
    · trivial
  | slr b g o n =>
    simp only [SV.ren]
    split
    · rename_i b' g' hb hg
      obtain ⟨q1, q2⟩ := hf b b' hb
      obtain ⟨q3, q4⟩ := hf g g' hg
      obtain ⟨_, p, c, h1, h2, rfl, h3⟩ := h
      exact ⟨⟨q1, q3⟩, p, c, h1, h2, rfl, by rw [q2, q4]; exact h3⟩
    · trivial
  | slice b o n c =>
    simp only [SV.ren]
    split
    · rename_i b' hb; obtain ⟨q1, q2⟩ := hf b b' hb; obtain ⟨h1, rfl⟩ := h; exact ⟨⟨q1, h1.2⟩, by simp only [SV.conc, q2]⟩
    · trivial
  | slx b o n =>
    simp only [SV.ren]
    split
    · rename_i b' hb; obtain ⟨q1, q2⟩ := hf b b' hb; obtain ⟨_, c, h1, h2, rfl⟩ := h; exact ⟨q1, c, h1, h2, by rw [q2]⟩
    · trivial
  | fn g caps =>
    simp only [SV.ren]
    split
    · rename_i l hl
      obtain ⟨q1, q2⟩ := renCVs_ok hf hl
      obtain ⟨_, rfl⟩ := h
      exact ⟨q1, by simp only [SV.conc, q2]⟩
    · trivial
  | sq b g o n =>
    simp only [SV.ren]
    split
    · rename_i b' g' hb hg
      obtain ⟨q1, q2⟩ := hf b b' hb
      obtain ⟨q3, q4⟩ := hf g g' hg
      obtain ⟨_, o', h1, h2, h3, rfl⟩ := h
      rw [← q4] at h1 h2 h3
      exact ⟨⟨q1, q3⟩, o', h1, h2, h3, by rw [q2, q4]⟩
    · trivial
  | slq b o n =>
    simp only [SV.ren]
    split
    · rename_i b' hb
      obtain ⟨q1, q2⟩ := hf b b' hb
      obtain ⟨_, p, c, h1, h2, rfl, h3⟩ := h
      exact ⟨q1, p, c, h1, h2, rfl, by rw [q2]; exact h3⟩
    · trivial
theorem all2_ren (hf : RenOk f env env' m') : ∀ {l : List SV} {vs : List Value}, All2 (SV.R env m) l vs → All2 (SV.R env' m') (l.map (SV.ren f)) vs
  | [], [], _ => trivial
  | _ :: _, _ :: _, h => ⟨SV.ren_R hf h.1, all2_ren hf h.2⟩
  | [], _ :: _, h => h.elim
  | _ :: _, [], h => h.elim
theorem TV.ren_R (hf : RenOk f env env' m') {s : TV} {v : Value} (h : s.R env m v) : (s.ren f).R env' m' v := by
  cases s with
  | one s => exact SV.ren_R hf h
  | agg l => obtain ⟨vs, rfl, h⟩ := h; exact ⟨vs, rfl, all2_ren hf h⟩
theorem all2_renT (hf : RenOk f env env' m') : ∀ {l : List TV} {vs : List Value}, All2 (TV.R env m) l vs → All2 (TV.R env' m') (l.map (TV.ren f)) vs
  | [], [], _ => trivial
  | _ :: _, _ :: _, h => ⟨TV.ren_R hf h.1, all2_renT hf h.2⟩
  | [], _ :: _, h => h.elim
  | _ :: _, [], h => h.elim
theorem AV.ren_R (hf : RenOk f env env' m') {s : AV} {v : Value} (h : s.R env m v) : (s.ren f).R env' m' v := by
  cases s with
  | one s => exact SV.ren_R hf h
  | agg l => obtain ⟨vs, rfl, h⟩ := h; exact ⟨vs, rfl, all2_ren hf h⟩
  | tup l => obtain ⟨vs, rfl, h⟩ := h; exact ⟨vs, rfl, all2_renT hf h⟩
theorem AB.ren_wr {ab : AB} (h : (ab.ren f).wr = true) : ab.wr = true := by
  cases ab with
  | gone => exact h
  | cells t l => rfl
  | row t l => rfl
  | ro l => exact h
  | seq t k L g => rfl
  | rseq k L g => simp only [AB.ren] at h; split at h <;> exact h
  | mp k kv es => rfl
  | fz t l => rfl
  | ob x => rfl
theorem AB.ren_R (hf : RenOk f env env' m') {ab : AB} {B : Nat → Prop} {w : World} {b : Nat} (h : ab.R env m B w b) : (ab.ren f).R env' m' B w b := by
  cases ab with
  | gone => trivial
  | cells t l => obtain ⟨vs, h1, h2, h3⟩ := h; exact ⟨vs, h1, all2_ren hf h2, h3⟩
  | row t l => obtain ⟨vs, rest, h1, h2, h3⟩ := h; exact ⟨vs, rest, h1, all2_ren hf h2, h3⟩
  | ro l => obtain ⟨vs, rest, t, fr, h1, h2, h3⟩ := h; exact ⟨vs, rest, t, fr, h1, all2_ren hf h2, h3⟩
  | seq t k L g =>
    obtain ⟨rest, h1, h2, h3, h4⟩ := h
    simp only [AB.ren]
    split
    · rename_i g' hg
      obtain ⟨q1, q2⟩ := hf g g' hg
      exact ⟨rest, h1, by rw [h2, q2], q1, h4⟩
    · trivial
  | rseq k L g =>
    simp only [AB.ren]
    split
    · rename_i g' hg
      obtain ⟨q1, q2⟩ := hf g g' hg
      rcases h with h | ⟨front, rest, t, fr, h1, ⟨h2, h3, h4⟩, h5⟩
      · exact .inl h
      · exact .inr ⟨front, rest, t, fr, h1, ⟨by rw [h2, q2], q1, h4⟩, h5⟩
    · trivial
  | mp k kv es => exact h
  | fz t l => obtain ⟨vs, fr, h1, h2, h3⟩ := h; exact ⟨vs, fr, h1, all2_ren hf h2, h3⟩
  | ob x => cases x with
    | df => exact h
    | lp => trivial
end

/-! ## A part of a state -/

/-- Some slots and some blocks, with numbers of their own. -/
structure LS where
  sl : List (Nat × AV)
  bl : List AB

inductive Root where
  | fix (n : Nat)
  | of (t : Nat)
def Root.find (tm : TM) : Root → Option (List Nat)
  | .fix n => some [n]
  | .of t => match tm.get t with
    | .one (.sq b g _ _) => some [b, g]
    | .one (.slq b _ _) => some [b]
    | .one (.slr b g _ _) => some [b, g]
    | .one (.ptr b _) => some [b]
    | .one (.slice b _ _ _) => some [b]
    | _ => none
def findAll (tm : TM) : List Root → Option (List Nat)
  | [] => some []
  | r :: rs => match r.find tm, findAll tm rs with | some a, some b => some (a ++ b) | _, _ => none

def posOf (b : Nat) : Nat → List Nat → Option Nat
  | _, [] => none
  | i, c :: cs => match Nat.beq b c with | true => some i | false => posOf b (i + 1) cs
/-- The number that a block has in a state of its own. -/
def newNo (g : Nat) (rho : List Nat) (b : Nat) : Option Nat := match Nat.blt b g with | true => some b | false => posOf b g rho
def distinct : List Nat → Bool
  | [] => true
  | b :: bs => (!bs.any (Nat.beq b)) && distinct bs
def lookL (g : Nat) (ts rho : List Nat) (tm : TM) (mem : Mem) : Option LS :=
  match distinct rho && rho.all (fun b => Nat.ble g b && Nat.blt b mem.n) with
  | true => some ⟨ts.map fun t => (t, (tm.get t).ren (newNo g rho)), rho.map fun b => match mem.get b with | some ab => ab.ren (newNo g rho) | none => .gone⟩
  | false => none

theorem posOf_spec {b : Nat} : ∀ {l : List Nat} {i j : Nat}, posOf b i l = some j → i ≤ j ∧ l[j - i]? = some b
  | [], _, _, h => by cases h
  | c :: cs, i, j, h => by
    simp only [posOf] at h
    split at h
    · rename_i hb
      cases h
      exact ⟨Nat.le_refl _, by simp [Nat.eq_of_beq_eq_true hb]⟩
    · obtain ⟨h1, h2⟩ := posOf_spec h
      refine ⟨by omega, ?_⟩
      rw [show j - i = (j - (i + 1)) + 1 by omega, List.getElem?_cons_succ]
      exact h2
theorem distinct_ne : ∀ {l : List Nat}, distinct l = true → ∀ {i j : Nat} {a b : Nat}, l[i]? = some a → l[j]? = some b → i ≠ j → a ≠ b
  | [], _, i, j, a, b, h1, _, _ => by cases h1
  | c :: cs, h, i, j, a, b, h1, h2, hij => by
    simp only [distinct, Bool.and_eq_true, Bool.not_eq_true', List.any_eq_false] at h
    have notin : ∀ x, x ∈ cs → c ≠ x := fun x hx e => by
      have := h.1 x hx
      rw [e, Nat.beq_refl] at this
      exact absurd rfl this
    cases i with
    | zero =>
      cases j with
      | zero => exact absurd rfl hij
      | succ j =>
        simp at h1 h2; subst h1
        exact notin b (List.mem_of_getElem? h2)
    | succ i =>
      cases j with
      | zero => simp at h1 h2; subst h2; exact fun e => notin a (List.mem_of_getElem? h1) e.symm
      | succ j => exact distinct_ne h.2 (by simpa using h1) (by simpa using h2) (by omega)

/-- The blocks behind the package's variables, by other numbers. -/
def envL (g : Nat) (rho : List Nat) (env : Nat → Nat) (i : Nat) : Nat := match Nat.blt i g with | true => env i | false => env (rho.getD (i - g) 0)

section
variable {C : Cfg} {B : Nat → Prop} {w0 w : World} {env : Nat → Nat} {tm : TM} {mem : Mem} {a : Act}

theorem blt_false {a b : Nat} (h : Nat.blt a b = false) : b ≤ a := by
  rcases Nat.lt_or_ge a b with h' | h'
  · have : Nat.blt a b = true := Nat.ble_eq_true_of_le h'
    rw [this] at h; cases h
  · exact h'
theorem newNo_ok {g : Nat} {rho : List Nat} : RenOk (newNo g rho) env (envL g rho env) (g + rho.length) := fun b b' h => by
  unfold newNo at h
  unfold envL
  split at h
  · rename_i hb
    cases h
    have hlt : b < g := Nat.le_of_ble_eq_true hb
    exact ⟨by omega, by rw [hb]⟩
  · obtain ⟨h1, h2⟩ := posOf_spec h
    have hlt := (List.getElem?_eq_some_iff.1 h2).1
    refine ⟨by omega, ?_⟩
    rw [show Nat.blt b' g = false from by cases hq : Nat.blt b' g with
      | false => rfl
      | true => have : b' < g := Nat.le_of_ble_eq_true hq; omega]
    simp only [List.getD_eq_getElem?_getD, h2, Option.getD_some]

/-- A block of memory with numbers of its own. -/
theorem memX_get {G : List (Nat × List SV)} {xs : List AB} {i : Nat} {ab : AB} (hi : (memX G xs).get i = some ab) : (i < G.length ∧ ∃ p, G[i]? = some p ∧ ab = .ro p.2) ∨ (∃ j, i = G.length + j ∧ xs[j]? = some ab) := by
  rcases ofList_get _ _ _ _ _ hi with h | ⟨_, h⟩
  · rw [Tr.get_mk] at h; cases h
  · simp only [Nat.sub_zero] at h
    by_cases hl : i < G.length
    · rw [List.getElem?_append_left (by simpa using hl), List.getElem?_map] at h
      obtain ⟨p, hp, rfl⟩ := Option.map_eq_some_iff.1 h
      exact .inl ⟨hl, p, hp, rfl⟩
    · rw [List.getElem?_append_right (by simpa using hl)] at h
      exact .inr ⟨i - G.length, by omega, by simpa using h⟩

theorem glob_env (hgl : C.gl = glFrom 0 C.gd) (h : MR C B w0 env mem w) {i : Nat} {p : Nat × List SV} (hp : C.gd[i]? = some p) : env i = p.1 ∧ i < mem.n := by
  have key : ∀ {l : List (Nat × List SV)} {k i : Nat} {p : Nat × List SV}, l[i]? = some p → (p.1, k + i) ∈ glFrom k l := by
    intro l
    induction l with
    | nil => intro k i p h; cases h
    | cons x l ih =>
      intro k i p h
      cases i with
      | zero => simp at h; subst h; simp [glFrom]
      | succ i => simp only [glFrom]; refine List.mem_cons_of_mem _ ?_; rw [show k + (i + 1) = k + 1 + i by omega]; exact ih (by simpa using h)
  have := h.gl (p.1, 0 + i) (by rw [hgl]; exact key hp)
  simpa using this

/-- A part of a state stands by itself. -/
theorem Rel.look (hgl : C.gl = glFrom 0 C.gd) (hr : Rel C B w0 env tm mem a w) {ts rho : List Nat} {s : LS} (h : lookL C.gd.length ts rho tm mem = some s) :
    (∀ p ∈ s.sl, p.2.R (envL C.gd.length rho env) (memX C.gd s.bl).n (a.tmps.getD p.1 undef)) ∧ MR C B w0 (envL C.gd.length rho env) (memX C.gd s.bl) w ∧ s.bl.length = rho.length ∧ distinct rho = true ∧ ∀ b ∈ rho, C.gd.length ≤ b ∧ b < mem.n := by
  unfold lookL at h
  split at h
  · rename_i hd
    cases h
    simp only [Bool.and_eq_true] at hd
    obtain ⟨hd, hall⟩ := hd
    have hok := newNo_ok (env := env) (g := C.gd.length) (rho := rho)
    have hn : (memX C.gd (rho.map fun b => match mem.get b with | some ab => ab.ren (newNo C.gd.length rho) | none => .gone)).n = C.gd.length + rho.length := by simp [memX]
    have hnew : ∀ j b, rho[j]? = some b → envL C.gd.length rho env (C.gd.length + j) = env b := fun j b hj => by
      unfold envL
      rw [show Nat.blt (C.gd.length + j) C.gd.length = false from by cases hq : Nat.blt (C.gd.length + j) C.gd.length with
        | false => rfl
        | true => have : C.gd.length + j < C.gd.length := Nat.le_of_ble_eq_true hq; omega]
      simp [List.getD_eq_getElem?_getD, hj]
    have hglob : ∀ i p, C.gd[i]? = some p → envL C.gd.length rho env i = p.1 := fun i p hp => by
      unfold envL
      rw [show Nat.blt i C.gd.length = true from Nat.ble_eq_true_of_le (List.getElem?_eq_some_iff.1 hp).1]
      exact (glob_env hgl hr.mem hp).1
    have hblk : ∀ j ab, (rho.map fun b => match mem.get b with | some ab => ab.ren (newNo C.gd.length rho) | none => .gone)[j]? = some ab → ∃ b, rho[j]? = some b ∧ ((∃ ab0, mem.get b = some ab0 ∧ ab = ab0.ren (newNo C.gd.length rho)) ∨ ab = .gone) := fun j ab hj => by
      rw [List.getElem?_map] at hj
      obtain ⟨b, hb, rfl⟩ := Option.map_eq_some_iff.1 hj
      refine ⟨b, hb, ?_⟩
      cases hq : mem.get b with
      | none => exact .inr rfl
      | some ab0 => exact .inl ⟨ab0, rfl, rfl⟩
    refine ⟨fun p hp => ?_, ⟨hr.mem.below, hr.mem.base, fun i ab hi => ?_, fun i ab hi => ?_, fun i j x y hi hj hij hx hy => ?_, fun p hp => ?_, hr.mem.gd⟩, by simp, hd, fun b hb => ?_⟩
    · obtain ⟨t', _, rfl⟩ := List.mem_map.1 hp
      rw [hn]
      exact AV.ren_R hok (hr.tmp t')
    · rw [hn]
      rcases memX_get hi with ⟨h1, _⟩ | ⟨j, rfl, hj⟩
      · omega
      · have := (List.getElem?_eq_some_iff.1 hj).1
        simp at this; omega
    · rw [hn]
      rcases memX_get hi with ⟨_, p, hp, rfl⟩ | ⟨j, rfl, hj⟩
      · obtain ⟨h1, vs, rest, t, fr, h2, h3⟩ := hr.mem.gd p (List.mem_of_getElem? hp)
        rw [hglob i p hp]
        exact ⟨vs, rest, t, fr, h2, h3.imp fun _ _ => SV.R_ext ⟨Nat.zero_le _, fun _ hi => absurd hi (Nat.not_lt_zero _)⟩, h1⟩
      · obtain ⟨b, hb, ⟨ab0, h0, rfl⟩ | rfl⟩ := hblk j ab hj
        · rw [hnew j b hb]
          exact AB.ren_R hok (hr.mem.blk b ab0 h0)
        · trivial
    · rcases memX_get hi with ⟨_, p, _, rfl⟩ | ⟨i', rfl, hi'⟩
      · cases hx
      rcases memX_get hj with ⟨_, p, _, rfl⟩ | ⟨j', rfl, hj'⟩
      · cases hy
      obtain ⟨b, hb, ⟨ab0, h0, rfl⟩ | rfl⟩ := hblk i' x hi'
      · obtain ⟨c, hc, ⟨ab1, h1, rfl⟩ | rfl⟩ := hblk j' y hj'
        · rw [hnew i' b hb, hnew j' c hc]
          exact hr.mem.sep b c ab0 ab1 h0 h1 (distinct_ne hd hb hc (by omega)) (AB.ren_wr hx) (AB.ren_wr hy)
        · cases hy
      · cases hx
    · rw [hgl] at hp
      obtain ⟨j, h1, q, h2, h3⟩ := mem_glFrom hp
      have hj : p.2 = j := by omega
      rw [hj, hn]
      have hl := (List.getElem?_eq_some_iff.1 h2).1
      exact ⟨by rw [hglob j q h2]; exact h3, by omega⟩
    · have := List.all_eq_true.1 hall b hb
      simp only [Bool.and_eq_true] at this
      exact ⟨Nat.le_of_ble_eq_true this.1, Nat.le_of_ble_eq_true this.2⟩
  · cases h

/-! ## What is known of a state, told with other words -/

/-- The same, or the same with numbers that are not told. -/
def AV.fits (x y : AV) : Prop := x = y ∨ x.sym = y ∨ y = .any
def fitsL : List (Nat × AV) → List (Nat × AV) → Prop
  | _, [] => True
  | [], _ :: _ => False
  | p :: l, q :: l' => p.1 = q.1 ∧ p.2.fits q.2 ∧ fitsL l l'
def LS.fits (s s' : LS) : Prop := fitsL s.sl s'.sl ∧ s.bl = s'.bl

theorem AV.fits_R {x y : AV} (h : x.fits y) {env : Nat → Nat} {m : Nat} {v : Value} (hx : x.R env m v) : y.R env m v := by
  rcases h with rfl | rfl | rfl
  · exact hx
  · exact AV.sym_R hx
  · trivial
theorem fitsL_mem : ∀ {l l' : List (Nat × AV)}, fitsL l l' → ∀ q ∈ l', ∃ p ∈ l, p.1 = q.1 ∧ p.2.fits q.2
  | _, [], _, q, hq => by cases hq
  | [], _ :: _, h, _, _ => h.elim
  | p :: l, q :: l', h, q', hq => by
    rcases List.mem_cons.1 hq with rfl | hq
    · exact ⟨p, List.mem_cons_self .., h.1, h.2.1⟩
    · obtain ⟨p', h1, h2⟩ := fitsL_mem h.2.2 q' hq
      exact ⟨p', List.mem_cons_of_mem _ h1, h2⟩
theorem dfs_nil {env env' : Nat → Nat} {m m' : Nat} {df df' : List DE} {ds : List Deferred} (h : Dfs env m df ds) (hd : df = []) (hd' : df' = []) : Dfs env' m' df' ds := by
  subst hd; subst hd'
  cases ds with
  | nil => trivial
  | cons _ _ => exact h.elim
/-- The slots of a state of its own, from what they hold. -/
theorem rel_fits {sz : Nat} {sl : List (Nat × AV)} (hsl : ∀ p ∈ sl, p.2.R env mem.n (a.tmps.getD p.1 undef)) (hsz : a.tmps.size = sz) {df : List DE} (hdf : df = []) (hd : Dfs env mem.n df a.defers) (hm : MR C B w0 env mem w) {sl' : List (Nat × AV)} (hf : fitsL sl sl') : Rel C B w0 env (slots sz sl') mem a w := by
  refine ⟨hsz.trans slots_sz.symm, fun t => slots_R fun q hq ht => ?_, by subst hdf; rw [slots_df]; exact hd, hm⟩
  obtain ⟨p, h1, h2, h3⟩ := fitsL_mem hf q hq
  subst ht
  rw [← h2]
  exact AV.fits_R h3 (hsl p h1)

/-! ## Round after round -/

/-- The blocks that keep their numbers. -/
def stays (g : Nat) : Nat → List Bool → List Nat → Bool
  | _, [], [] => true
  | i, mv :: mvs, b :: bs => (mv || Nat.beq b (g + i)) && stays g (i + 1) mvs bs
  | _, _, _ => false
/-- A round's end, looked at. -/
def lookI (g sz : Nat) (ts : List Nat) (ri : List Root) (mv : List Bool) (tm : TM) (mem : Mem) : Option LS :=
  match Nat.beq tm.sz sz, findAll tm ri, tm.df with
  | true, some rho, [] => match stays g 0 mv rho with
    | true => lookL g ts rho tm mem
    | false => none
  | _, _, _ => none
def endX (g sz : Nat) (ts : List Nat) (ri : List Root) (mv : List Bool) (X : AE → Option LS → Prop) : AE → TM → Mem → Out := fun e tm mem => .need (X e (lookI g sz ts ri mv tm mem)) (.done .any Mem.empty)

theorem stays_spec {g : Nat} : ∀ {mv : List Bool} {rho : List Nat} {i : Nat}, stays g i mv rho = true → mv.length = rho.length ∧ ∀ j, mv[j]? = some false → rho[j]? = some (g + (i + j))
  | [], [], _, _ => ⟨rfl, fun j h => by cases h⟩
  | m :: mvs, b :: bs, i, h => by
    simp only [stays, Bool.and_eq_true, Bool.or_eq_true] at h
    obtain ⟨q1, q2⟩ := stays_spec h.2
    refine ⟨by simp [q1], fun j hj => ?_⟩
    cases j with
    | zero =>
      simp at hj; subst hj
      rcases h.1 with h | h
      · cases h
      · simp [Nat.eq_of_beq_eq_true h]
    | succ j =>
      have := q2 j (by simpa using hj)
      rw [show i + 1 + j = i + (j + 1) by omega] at this
      simpa using this
  | [], _ :: _, _, h => by cases h
  | _ :: _, [], _, h => by cases h

theorem lookI_sound (hgl : C.gl = glFrom 0 C.gd) (hr : Rel C B w0 env tm mem a w) {sz : Nat} {ts : List Nat} {ri : List Root} {mv : List Bool} {s : LS} (h : lookI C.gd.length sz ts ri mv tm mem = some s) :
    a.tmps.size = sz ∧ tm.df = [] ∧ ∃ env', (∀ p ∈ s.sl, p.2.R env' (memX C.gd s.bl).n (a.tmps.getD p.1 undef)) ∧ MR C B w0 env' (memX C.gd s.bl) w ∧ s.bl.length = mv.length ∧ ∀ j, mv[j]? = some false → env' (C.gd.length + j) = env (C.gd.length + j) := by
  unfold lookI at h
  split at h
  · rename_i rho hsz hrho hdf
    split at h
    · rename_i hst
      obtain ⟨q1, q2⟩ := stays_spec hst
      obtain ⟨p1, p2, p3, _, _⟩ := Rel.look hgl hr h
      refine ⟨hr.size.trans (Nat.eq_of_beq_eq_true hsz), hdf, _, p1, p2, p3.trans q1.symm, fun j hj => ?_⟩
      have := q2 j hj
      rw [Nat.zero_add] at this
      unfold envL
      rw [show Nat.blt (C.gd.length + j) C.gd.length = false from by cases hq : Nat.blt (C.gd.length + j) C.gd.length with
        | false => rfl
        | true => have : C.gd.length + j < C.gd.length := Nat.le_of_ble_eq_true hq; omega]
      simp [List.getD_eq_getElem?_getD, this]
    · cases h
  · cases h

/-- What a round has to come to. -/
def RoundOk {ι : Type} (St : ι → LS) (Inv : ι → Prop) (mu : ι → Nat) (Ex : ι → AE → LS → Prop) (i : ι) : AE → Option LS → Prop
  | .normal, some s => ∃ j, Inv j ∧ mu j < mu i ∧ (∀ e s', Ex j e s' → Ex i e s') ∧ s.fits (St j)
  | .exit id, some s => ∃ s', Ex i (.exit id) s' ∧ s.fits s'
  | .ret, some s => ∃ s', Ex i .ret s' ∧ s.fits s'
  | _, _ => False

theorem rounds (hC : COk C) (hgl : C.gl = glFrom 0 C.gd) {bd : Code} {n sz : Nat} {ts : List Nat} {ri : List Root} {mv : List Bool} {ι : Type} {St : ι → LS} {Inv : ι → Prop} {mu : ι → Nat} {Ex : ι → AE → LS → Prop}
    (step : ∀ i, Inv i → (exec C n (.run bd) (slots sz (St i).sl) (memX C.gd (St i).bl) (endX C.gd.length sz ts ri mv (RoundOk St Inv mu Ex i))).sat (fun _ _ => True)) {Q : Exit → Act → World → Prop} {ae : Nat → Nat} :
    ∀ (m : Nat) (i : ι), mu i = m → Inv i → ∀ (env : Nat → Nat) (a : Act) (w : World), Rel C B w0 env (slots sz (St i).sl) (memX C.gd (St i).bl) a w → (St i).bl.length = mv.length → (∀ j, mv[j]? = some false → env (C.gd.length + j) = ae j) →
      (∀ e s env' a' w', Ex i e s → s.bl.length = mv.length → Rel C B w0 env' (slots sz s.sl) (memX C.gd s.bl) a' w' → (∀ p ∈ s.sl, p.2.R env' (memX C.gd s.bl).n (a'.tmps.getD p.1 undef)) → (∀ j, mv[j]? = some false → env' (C.gd.length + j) = ae j) → Q e.conc a' w') → InLoopJ C.J bd Q a w := by
  intro m
  induction m using Nat.strongRecOn with
  | _ m ih =>
    intro i hm hI env a w hr hlen hae hk
    refine InLoopJ.round (body_step (P := fun e tm' mem' => RoundOk St Inv mu Ex i e (lookI C.gd.length sz ts ri mv tm' mem')) hC (step i hI) hr ?_)
    intro e tm' mem' env' a' w' hP hR hx
    have hkeep : ∀ j, mv[j]? = some false → env' (C.gd.length + j) = ae j := fun j hj => by
      rw [hx.2 _ ?_]
      · exact hae j hj
      · show C.gd.length + j < C.gd.length + (St i).bl.length
        have := (List.getElem?_eq_some_iff.1 hj).1
        omega
    have fin : ∀ s s', lookI C.gd.length sz ts ri mv tm' mem' = some s → s.fits s' → ∃ env2, s'.bl.length = mv.length ∧ Rel C B w0 env2 (slots sz s'.sl) (memX C.gd s'.bl) a' w' ∧ (∀ p ∈ s'.sl, p.2.R env2 (memX C.gd s'.bl).n (a'.tmps.getD p.1 undef)) ∧ (∀ j, mv[j]? = some false → env2 (C.gd.length + j) = ae j) := fun s s' hl hf => by
      obtain ⟨q1, qd, env2, q2, q3, q4, q5⟩ := lookI_sound hgl hR hl
      rw [← hf.2]
      refine ⟨env2, q4, rel_fits q2 q1 qd (dfs_nil hR.defers qd qd) q3 hf.1, fun q hq => ?_, fun j hj => (q5 j hj).trans (hkeep j hj)⟩
      obtain ⟨p, h1, h2, h3⟩ := fitsL_mem hf.1 q hq
      rw [← h2]
      exact AV.fits_R h3 (q2 p h1)
    cases e with
    | normal =>
      cases hl : lookI C.gd.length sz ts ri mv tm' mem' with
      | none => rw [hl] at hP; exact hP.elim
      | some s =>
        rw [hl] at hP
        obtain ⟨j, h1, h2, h3, h4⟩ := hP
        obtain ⟨env2, p1, p2, _, p3⟩ := fin s (St j) hl h4
        exact ih (mu j) (by omega) j rfl h1 env2 a' w' p2 p1 p3 fun e s' env3 a3 w3 he => hk e s' env3 a3 w3 (h3 e s' he)
    | exit id =>
      cases hl : lookI C.gd.length sz ts ri mv tm' mem' with
      | none => rw [hl] at hP; exact hP.elim
      | some s =>
        rw [hl] at hP
        obtain ⟨s', h1, h2⟩ := hP
        obtain ⟨env2, p1, p2, p4, p3⟩ := fin s s' hl h2
        exact hk _ s' env2 a' w' h1 p1 p2 p4 p3
    | ret =>
      cases hl : lookI C.gd.length sz ts ri mv tm' mem' with
      | none => rw [hl] at hP; exact hP.elim
      | some s =>
        rw [hl] at hP
        obtain ⟨s', h1, h2⟩ := hP
        obtain ⟨env2, p1, p2, p4, p3⟩ := fin s s' hl h2
        exact hk _ s' env2 a' w' h1 p1 p2 p4 p3
    | goto l => exact hP.elim
    | panic v => exact hP.elim

/-! ## Back to the whole state -/

/-- The number, in the whole state, of a block of the part. -/
def backNo (g n : Nat) (rho : List Nat) (mv : List Bool) (c : Nat) : Option Nat :=
  match Nat.blt c g with
  | true => some c
  | false => match rho[c - g]?, mv[c - g]? with
    | some b, some false => some b
    | some _, some true => some (n + (c - g))
    | _, _ => none
def mergeT (n : Nat) : Tr AB → Nat → List Nat → List Bool → List AB → Tr AB
  | t, j, b :: bs, m :: ms, ab :: abs => mergeT n (match m with
    | true => match ab.wr with
      | true => (t.set b .gone).set (n + j) ab
      | false => t.set b .gone
    | false => match ab.wr with
      | true => t.set b ab
      | false => match t.get b with
        | some old => match old.wr with | true => t.set b .gone | false => t
        | none => t) (j + 1) bs ms abs
  | t, _, _, _, _ => t

def getL (mem : Mem) : Nat → List Bool → List AB
  | _, [] => []
  | i, _ :: ms => (match mem.get i with | some ab => ab | none => .gone) :: getL mem (i + 1) ms
/-- A slot's slice of all of a block of numbers, told as one of whatever length. -/
def seqify (t : Nat) (tm : TM) (mem : Mem) : TM × Mem :=
  match tm.get t with
  | .one (.slice b 0 n c) => match mem.get b with
    | some (.cells ty l) => match kindOf l with
      | some k => match intsOf k l, Nat.beq n c && Nat.beq n l.length && Nat.ble n 9223372036854775807 && Nat.blt t tm.sz with
        | some L, true => (tm.set t (.one (.sq b mem.n 0 n)), ⟨mem.n + 1, mem.t.set b (.seq ty k L mem.n)⟩)
        | _, _ => (tm, mem)
      | none => (tm, mem)
    | _ => (tm, mem)
  | _ => (tm, mem)
def seqifyAll : List Nat → TM → Mem → TM × Mem
  | [], tm, mem => (tm, mem)
  | t :: ts, tm, mem => match seqify t tm mem with | (tm', mem') => seqifyAll ts tm' mem'

theorem seqify_sound {t : Nat} (hr : Rel C B w0 env tm mem a w) : ∃ env', Rel C B w0 env' (seqify t tm mem).1 (seqify t tm mem).2 a w ∧ Ext env mem.n env' (seqify t tm mem).2.n := by
  have triv : ∃ env', Rel C B w0 env' tm mem a w ∧ Ext env mem.n env' mem.n := ⟨env, hr, Ext.refl _ _⟩
  unfold seqify
  split
  · rename_i b n c ht
    split
    · rename_i ty l hb
      split
      · rename_i k hk
        split
        · rename_i L hL hc
          simp only [Bool.and_eq_true] at hc
          obtain ⟨⟨⟨h1, h2⟩, h3⟩, h4⟩ := hc
          have h1 := Nat.eq_of_beq_eq_true h1
          have h2 := Nat.eq_of_beq_eq_true h2
          have h3 := Nat.le_of_ble_eq_true h3
          have h4 : t < tm.sz := Nat.le_of_ble_eq_true h4
          obtain ⟨vs, hh, hR, hB⟩ := hr.mem.blk b _ hb
          obtain ⟨e1, e2⟩ := intsOf_R hL hR
          have hlen : L.length = n := by have := hR.length; rw [e1] at this; simpa [h2] using this.symm
          have hbn := hr.mem.lt b _ hb
          let env' : Nat → Nat := fun i => if i < mem.n then env i else n
          have e0 : ∀ i, i < mem.n → env' i = env i := fun i hi => if_pos hi
          have eg : env' mem.n = n := if_neg (by omega)
          have hx : Ext env mem.n env' (mem.n + 1) := ⟨by omega, e0⟩
          have hseq : (AB.seq ty k L mem.n).R env' (mem.n + 1) B w (env' b) := by
            rw [e0 b hbn]
            exact ⟨[], by rw [List.append_nil, ← e1]; exact hh, by rw [eg]; simp [hlen], by omega, e2, hB⟩
          have hget : ∀ i ab, (Tr.set mem.t b (.seq ty k L mem.n)).get i = some ab → (i = b ∧ ab = .seq ty k L mem.n) ∨ (i ≠ b ∧ mem.get i = some ab) := fun i ab hi => by
            by_cases e : i = b
            · subst e; exact .inl ⟨rfl, Tr.get_set_eq _ _ _ _ hi⟩
            · rw [Tr.get_set_ne _ _ _ _ (Ne.symm e)] at hi; exact .inr ⟨e, hi⟩
          refine ⟨env', ⟨hr.size.trans (set_sz _ _ _).symm, fun u => ?_, by rw [set_df]; exact Dfs.ext hx hr.defers, ⟨hr.mem.below, hr.mem.base, fun i ab hi => ?_, fun i ab hi => ?_, fun i j x y hi hj hij hx' hy' => ?_, fun p hp => ?_, hr.mem.gd⟩⟩, hx⟩
          · unfold TM.set
            rw [show Nat.blt t tm.sz = true from Nat.ble_eq_true_of_le h4]
            simp only [TM.get]
            by_cases hut : t = u
            · subst hut
              cases hq : (tm.t.set t (.one (.sq b mem.n 0 n))).get t with
              | none => exact AV.R_any
              | some y =>
                rw [Tr.get_set_eq _ _ _ _ hq]
                have hv := hr.tmp t
                rw [ht] at hv
                obtain ⟨_, hv⟩ := hv
                refine ⟨⟨by omega, by omega⟩, 0, .inl rfl, by rw [eg]; omega, by rw [eg]; exact h3, ?_⟩
                rw [hv, eg, e0 b hbn, ← h1]
                rfl
            · rw [Tr.get_set_ne _ _ _ _ hut]
              exact AV.R_ext hx (hr.tmp u)
          · show i < mem.n + 1
            rcases hget i ab hi with ⟨rfl, _⟩ | ⟨_, hi⟩
            · omega
            · have := hr.mem.lt i ab hi; omega
          · rcases hget i ab hi with ⟨rfl, rfl⟩ | ⟨_, hi⟩
            · exact hseq
            · rw [e0 i (hr.mem.lt i ab hi)]; exact AB.R_ext hx (hr.mem.blk i ab hi)
          · have old : ∀ i ab, (Tr.set mem.t b (.seq ty k L mem.n)).get i = some ab → ab.wr = true → ∃ c, mem.get i = some c ∧ c.wr = true := fun i ab hi hw => by
              rcases hget i ab hi with ⟨rfl, rfl⟩ | ⟨_, hi⟩
              · exact ⟨_, hb, rfl⟩
              · exact ⟨ab, hi, hw⟩
            obtain ⟨x', q1, q2⟩ := old i x hi hx'
            obtain ⟨y', q3, q4⟩ := old j y hj hy'
            rw [e0 i (hr.mem.lt i x' q1), e0 j (hr.mem.lt j y' q3)]
            exact hr.mem.sep i j x' y' q1 q3 hij q2 q4
          · obtain ⟨q1, q2⟩ := hr.mem.gl p hp
            exact ⟨(e0 _ q2).trans q1, by show p.2 < mem.n + 1; omega⟩
        · exact triv
      · exact triv
    · exact triv
  · exact triv
theorem seqifyAll_sound : ∀ {ts : List Nat} {env : Nat → Nat} {tm : TM} {mem : Mem}, Rel C B w0 env tm mem a w → ∃ env', Rel C B w0 env' (seqifyAll ts tm mem).1 (seqifyAll ts tm mem).2 a w ∧ Ext env mem.n env' (seqifyAll ts tm mem).2.n
  | [], env, tm, mem, hr => ⟨env, hr, Ext.refl _ _⟩
  | t :: ts, env, tm, mem, hr => by
    obtain ⟨env1, h1, h2⟩ := seqify_sound (t := t) hr
    obtain ⟨env2, h3, h4⟩ := seqifyAll_sound (ts := ts) h1
    exact ⟨env2, h3, h2.trans h4⟩

/-- A loop's contract, by a state of its own. -/
def lqF {ι : Type} (G : List (Nat × List SV)) (sz : Nat) (sqs ts : List Nat) (re : List Root) (mv : List Bool) (pi : LS → Option ι) (ok : ι → Prop) (out : ι → (AE → LS → Out) → Out) : TM → Mem → Option ((AE → TM → Mem → Out) → Out) := fun tm0 mem0 =>
  match seqifyAll sqs tm0 mem0 with
  | (tm, mem) =>
  match Nat.beq tm.sz sz, findAll tm re, tm.df with
  | true, some rho, [] => match lookL G.length ts rho tm mem, Nat.beq rho.length mv.length with
    | some s, true => match pi s with
      | some i => some fun k => .need (ok i) (out i fun e s' => match Nat.beq s'.bl.length mv.length with
        | true => k e (slots sz (s'.sl.map fun p => (p.1, p.2.ren (backNo G.length mem.n rho mv)))) ⟨mem.n + mv.length, mergeT mem.n mem.t 0 rho mv ((getL (memX G s'.bl) G.length mv).map (AB.ren (backNo G.length mem.n rho mv)))⟩
        | false => .bad 84)
      | none => none
    | _, _ => none
  | _, _, _ => none

theorem mergeT_get {n : Nat} : ∀ {rho : List Nat} {mv : List Bool} {bl : List AB} {t : Tr AB} {j i : Nat} {ab : AB}, rho.length = mv.length → bl.length = mv.length → (mergeT n t j rho mv bl).get i = some ab →
    ab = .gone ∧ i ∈ rho ∨ (∃ p : Nat, rho[p]? = some i ∧ mv[p]? = some false ∧ bl[p]? = some ab ∧ ab.wr = true) ∨ (∃ p : Nat, mv[p]? = some true ∧ bl[p]? = some ab ∧ i = n + (j + p) ∧ ab.wr = true) ∨
      (t.get i = some ab ∧ (i ∈ rho → ab.wr = false))
  | [], [], [], t, j, i, ab, _, _, h => .inr (.inr (.inr ⟨h, fun h => by cases h⟩))
  | b :: bs, m :: ms, x :: xs, t, j, i, ab, h1, h2, h => by
    have ih := mergeT_get (rho := bs) (mv := ms) (bl := xs) (j := j + 1) (i := i) (ab := ab) (by simpa using h1) (by simpa using h2) h
    rcases ih with ⟨q1, q2⟩ | ⟨p, q1, q2, q3, q4⟩ | ⟨p, q1, q2, q3, q4⟩ | ⟨q1, q2⟩
    · exact .inl ⟨q1, List.mem_cons_of_mem _ q2⟩
    · exact .inr (.inl ⟨p + 1, by simpa using q1, by simpa using q2, by simpa using q3, q4⟩)
    · exact .inr (.inr (.inl ⟨p + 1, by simpa using q1, by simpa using q2, by omega, q4⟩))
    · cases m with
      | true =>
        dsimp only at q1
        have gone : (t.set b .gone).get i = some ab → ab = .gone ∧ i ∈ b :: bs ∨ (t.get i = some ab ∧ (i ∈ b :: bs → ab.wr = false)) := fun q1 => by
          by_cases hb : i = b
          · subst hb
            exact .inl ⟨Tr.get_set_eq _ _ _ _ q1, List.mem_cons_self ..⟩
          · rw [Tr.get_set_ne _ _ _ _ (Ne.symm hb)] at q1
            refine .inr ⟨q1, fun hm => ?_⟩
            rcases List.mem_cons.1 hm with e | hm
            · exact absurd e hb
            · exact q2 hm
        cases hw : x.wr with
        | true =>
          rw [hw] at q1
          dsimp only at q1
          by_cases hi : i = n + j
          · subst hi
            have := Tr.get_set_eq _ _ _ _ q1
            subst this
            exact .inr (.inr (.inl ⟨0, rfl, rfl, by omega, hw⟩))
          · rw [Tr.get_set_ne _ _ _ _ (Ne.symm hi)] at q1
            rcases gone q1 with h | h
            · exact .inl h
            · exact .inr (.inr (.inr h))
        | false =>
          rw [hw] at q1
          dsimp only at q1
          rcases gone q1 with h | h
          · exact .inl h
          · exact .inr (.inr (.inr h))
      | false =>
        dsimp only at q1
        cases hw : x.wr with
        | true =>
          rw [hw] at q1
          dsimp only at q1
          by_cases hb : i = b
          · subst hb
            have := Tr.get_set_eq _ _ _ _ q1
            subst this
            exact .inr (.inl ⟨0, rfl, rfl, rfl, hw⟩)
          · rw [Tr.get_set_ne _ _ _ _ (Ne.symm hb)] at q1
            refine .inr (.inr (.inr ⟨q1, fun hm => ?_⟩))
            rcases List.mem_cons.1 hm with e | hm
            · exact absurd e hb
            · exact q2 hm
        | false =>
          rw [hw] at q1
          dsimp only at q1
          split at q1
          · rename_i old hold
            split at q1
            · by_cases hb : i = b
              · subst hb
                exact .inl ⟨Tr.get_set_eq _ _ _ _ q1, List.mem_cons_self ..⟩
              · rw [Tr.get_set_ne _ _ _ _ (Ne.symm hb)] at q1
                refine .inr (.inr (.inr ⟨q1, fun hm => ?_⟩))
                rcases List.mem_cons.1 hm with e | hm
                · exact absurd e hb
                · exact q2 hm
            · rename_i ho
              refine .inr (.inr (.inr ⟨q1, fun hm => ?_⟩))
              rcases List.mem_cons.1 hm with e | hm
              · subst e; rw [q1] at hold; cases hold; exact ho
              · exact q2 hm
          · rename_i hold
            refine .inr (.inr (.inr ⟨q1, fun hm => ?_⟩))
            rcases List.mem_cons.1 hm with e | hm
            · subst e; rw [q1] at hold; cases hold
            · exact q2 hm
  | [], [], _ :: _, _, _, _, _, _, h, _ => by cases h
  | [], _ :: _, _, _, _, _, _, h, _, _ => by cases h
  | _ :: _, [], _, _, _, _, _, h, _, _ => by cases h
  | _ :: _, _ :: _, [], _, _, _, _, _, h, _ => by cases h

theorem AB.not_base {env : Nat → Nat} {m : Nat} {w : World} {b : Nat} {ab : AB} (h : ab.R env m B w b) (hw : ab.wr = true) : ¬ B b := by
  cases ab with
  | gone => cases hw
  | cells t l => obtain ⟨_, _, _, q⟩ := h; exact q
  | row t l => obtain ⟨_, _, _, _, q⟩ := h; exact q
  | ro l => cases hw
  | seq t k L g => obtain ⟨_, _, _, _, _, q⟩ := h; exact q
  | rseq k L g => cases hw
  | mp k kv es => obtain ⟨_, _, _, _, _, q⟩ := h; exact q
  | fz t l => obtain ⟨_, _, _, _, q⟩ := h; exact q
  | ob x => obtain ⟨_, _, _, q⟩ := h; exact q
/-- A writable block, of which more is protected. -/
theorem AB.R_wr {env : Nat → Nat} {m : Nat} {B' : Nat → Prop} {w : World} {b : Nat} {ab : AB} (h : ab.R env m B w b) (hw : ab.wr = true) (hB : ¬ B' b) : ab.R env m B' w b := by
  cases ab with
  | gone => cases hw
  | cells t l => obtain ⟨vs, q1, q2, _⟩ := h; exact ⟨vs, q1, q2, hB⟩
  | row t l => obtain ⟨vs, rest, q1, q2, _⟩ := h; exact ⟨vs, rest, q1, q2, hB⟩
  | ro l => cases hw
  | seq t k L g => obtain ⟨rest, q1, q2, q3, q4, _⟩ := h; exact ⟨rest, q1, q2, q3, q4, hB⟩
  | rseq k L g => cases hw
  | mp k kv es => obtain ⟨ms, c, q1, q2, q3, _⟩ := h; exact ⟨ms, c, q1, q2, q3, hB⟩
  | fz t l => obtain ⟨vs, fr, q1, q2, _⟩ := h; exact ⟨vs, fr, q1, q2, hB⟩
  | ob x => obtain ⟨o, q1, q2, _⟩ := h; exact ⟨o, q1, q2, hB⟩
theorem AB.R_ro {env : Nat → Nat} {m : Nat} {B' : Nat → Prop} {w : World} {b : Nat} {ab : AB} (h : ab.R env m B w b) (hw : ab.wr = false) (hB : B b → B' b) : ab.R env m B' w b := by
  cases ab with
  | gone => trivial
  | cells t l => cases hw
  | row t l => cases hw
  | ro l => obtain ⟨vs, rest, t, fr, q1, q2, q3⟩ := h; exact ⟨vs, rest, t, fr, q1, q2, hB q3⟩
  | seq t k L g => cases hw
  | rseq k L g =>
    rcases h with h | ⟨front, rest, t, fr, q1, q2, q3⟩
    · exact .inl h
    · exact .inr ⟨front, rest, t, fr, q1, q2, hB q3⟩
  | mp k kv es => cases hw
  | fz t l => cases hw
  | ob x => cases hw

/-- All that was there is protected, but the writable blocks of some memory. -/
def guard (w : World) (env : Nat → Nat) (mem : Mem) (b : Nat) : Prop := b < w.heap.size ∧ ∀ i ab, mem.get i = some ab → ab.wr = true → env i ≠ b
theorem MR.guard (h : MR C B w0 env mem w) : MR C (guard w env mem) w env mem w ∧ ∀ b, B b → Go.Ax.guard w env mem b := by
  have hB : ∀ b, B b → Go.Ax.guard w env mem b := fun b hb => ⟨h.base b hb, fun i ab hi hw e => AB.not_base (h.blk i ab hi) hw (e ▸ hb)⟩
  refine ⟨⟨Keep.refl _ _, fun b hb => hb.1, h.lt, fun i ab hi => ?_, h.sep, h.gl, fun p hp => ?_⟩, hB⟩
  · cases hw : ab.wr with
    | true => exact AB.R_wr (h.blk i ab hi) hw fun hg => hg.2 i ab hi hw rfl
    | false => exact AB.R_ro (h.blk i ab hi) hw (hB _)
  · obtain ⟨q1, q2⟩ := h.gd p hp
    exact ⟨hB _ q1, q2⟩

theorem getL_len {mem : Mem} : ∀ {ms : List Bool} {i : Nat}, (getL mem i ms).length = ms.length
  | [], _ => rfl
  | _ :: ms, i => by simp [getL, getL_len (ms := ms)]
theorem getL_get {mem : Mem} : ∀ {ms : List Bool} {i p : Nat} {ab : AB}, (getL mem i ms)[p]? = some ab → mem.get (i + p) = some ab ∨ ab = .gone
  | [], _, _, _, h => by cases h
  | m :: ms, i, p, ab, h => by
    cases p with
    | zero =>
      simp only [getL, List.getElem?_cons_zero, Option.some.injEq] at h
      subst h
      cases hq : mem.get i with
      | none => exact .inr rfl
      | some ab => exact .inl rfl
    | succ p =>
      simp only [getL, List.getElem?_cons_succ] at h
      rw [show i + (p + 1) = i + 1 + p by omega]
      exact getL_get h

/-- A loop, by rounds in a state of its own. -/
theorem lq_rule {C : Cfg} (hC : COk C) (hgl : C.gl = glFrom 0 C.gd) {bd : Code} {n sz : Nat} {sqs ts : List Nat} {re ri : List Root} {mv : List Bool} {ι : Type} {pi : LS → Option ι} {St : ι → LS} {Inv : ι → Prop} {mu : ι → Nat} {Ex : ι → AE → LS → Prop} {ok : ι → Prop} {out : ι → (AE → LS → Out) → Out}
    (hpi : ∀ s i, pi s = some i → s.fits (St i)) (hok : ∀ i, ok i → Inv i)
    (hout : ∀ (K : AV → Mem → Prop) k i, ok i → (out i k).sat K → ∀ e s, Ex i e s → (k e s).sat K)
    (step : ∀ i, Inv i → (exec C n (.run bd) (slots sz (St i).sl) (memX C.gd (St i).bl) (endX C.gd.length sz ts ri mv (RoundOk St Inv mu Ex i))).sat (fun _ _ => True)) :
    LoopQ C bd (lqF C.gd sz sqs ts re mv pi ok out) := by
  intro K k tm0 mem0 o hF hs B w0 env0 a w Q hr0 hk0
  obtain ⟨env, hr, hx0⟩ := seqifyAll_sound (ts := sqs) hr0
  unfold lqF at hF
  generalize seqifyAll sqs tm0 mem0 = tmm at hF hr hx0
  obtain ⟨tm, mem⟩ := tmm
  dsimp only at hr hx0
  have hk := fun e tm' mem' env' a' w' (q1 : (k e tm' mem').sat K) (q2 : Rel C B w0 env' tm' mem' a' w') (q3 : Ext env mem.n env' mem'.n) => hk0 e tm' mem' env' a' w' q1 q2 (hx0.trans q3)
  dsimp only at hF
  split at hF
  case h_2 => cases hF
  rename_i rho hsz hrho hdf
  split at hF
  case h_2 => cases hF
  rename_i s hlook hlen
  split at hF
  case h_2 => cases hF
  rename_i i hi
  obtain rfl := Option.some.inj hF
  obtain ⟨hoki, hs⟩ := hs
  have hfit := hpi s i hi
  have hlen := Nat.eq_of_beq_eq_true hlen
  obtain ⟨l1, l2, l3, l4, l5⟩ := Rel.look hgl hr hlook
  obtain ⟨g1, g2⟩ := l2.guard
  have hrel : Rel C (guard w (envL C.gd.length rho env) (memX C.gd s.bl)) w (envL C.gd.length rho env) (slots sz (St i).sl) (memX C.gd (St i).bl) a w := by
    rw [← hfit.2]
    exact rel_fits l1 (hr.size.trans (Nat.eq_of_beq_eq_true hsz)) hdf (dfs_nil hr.defers hdf hdf) g1 hfit.1
  have hat : ∀ j b, rho[j]? = some b → envL C.gd.length rho env (C.gd.length + j) = env b := fun j b hj => by
    unfold envL
    rw [show Nat.blt (C.gd.length + j) C.gd.length = false from by cases hq : Nat.blt (C.gd.length + j) C.gd.length with
      | false => rfl
      | true => have : C.gd.length + j < C.gd.length := Nat.le_of_ble_eq_true hq; omega]
    simp [List.getD_eq_getElem?_getD, hj]
  refine rounds hC hgl step (ae := fun j => env (rho.getD j 0)) (mu i) i rfl (hok i hoki) _ a w hrel (by rw [← hfit.2, l3, hlen]) (fun j hj => ?_) ?_
  · have hlt := (List.getElem?_eq_some_iff.1 hj).1
    have : rho[j]? = some (rho.getD j 0) := by simp [List.getD_eq_getElem?_getD, List.getElem?_eq_getElem (show j < rho.length by omega)]
    exact hat j _ this
  intro e s' env3 a' w' hex hbl hR hsl hkeep
  have hs := hout K _ i hoki hs e s' hex
  rw [hbl, Nat.beq_refl] at hs
  dsimp only at hs
  have hm := hR.mem
  have n3 : (memX C.gd s'.bl).n = C.gd.length + mv.length := by simp [memX, hbl]
  let env4 : Nat → Nat := fun b => if b < mem.n then env b else env3 (C.gd.length + (b - mem.n))
  have e1 : ∀ b, b < mem.n → env4 b = env b := fun b hb => if_pos hb
  have e2 : ∀ j, env4 (mem.n + j) = env3 (C.gd.length + j) := fun j => by
    show (if mem.n + j < mem.n then _ else _) = _
    rw [if_neg (by omega), show mem.n + j - mem.n = j by omega]
  have hgn : C.gd.length ≤ mem.n := by
    rcases Nat.eq_zero_or_pos C.gd.length with h0 | h0
    · omega
    · have := (glob_env hgl hr.mem (List.getElem?_eq_getElem (show C.gd.length - 1 < C.gd.length by omega))).2
      omega
  have hkept : ∀ j b, rho[j]? = some b → mv[j]? = some false → env3 (C.gd.length + j) = env b ∧ b < mem.n := fun j b hb hj => by
    refine ⟨?_, (l5 b (List.mem_of_getElem? hb)).2⟩
    rw [hkeep j hj]
    simp [List.getD_eq_getElem?_getD, hb]
  have hren : RenOk (backNo C.gd.length mem.n rho mv) env3 env4 (mem.n + mv.length) := fun c c' h => by
    unfold backNo at h
    split at h
    · rename_i hc
      cases h
      have hc : c < C.gd.length := Nat.le_of_ble_eq_true hc
      refine ⟨by omega, ?_⟩
      have hp := List.getElem?_eq_getElem hc
      rw [e1 c (by omega), (glob_env hgl hr.mem hp).1, (glob_env hgl hm hp).1]
    · rename_i hc
      have hc := blt_false hc
      split at h
      · rename_i b hb hmv
        cases h
        obtain ⟨q1, q2⟩ := hkept _ _ hb hmv
        refine ⟨by omega, ?_⟩
        rw [e1 _ q2, ← q1, show C.gd.length + (c - C.gd.length) = c by omega]
      · rename_i b hb hmv
        cases h
        have := (List.getElem?_eq_some_iff.1 hmv).1
        refine ⟨by omega, ?_⟩
        rw [e2, show C.gd.length + (c - C.gd.length) = c by omega]
      · cases h
  have hx4 : Ext env mem.n env4 (mem.n + mv.length) := ⟨Nat.le_add_right _ _, e1⟩
  have hK : Keep B w0 w' := hr.mem.below.trans ⟨hm.below.grown, fun b hb => hm.below.block b (g2 b hb)⟩
  -- the part's writable blocks
  have hpart : ∀ p i ab, ((getL (memX C.gd s'.bl) C.gd.length mv).map (AB.ren (backNo C.gd.length mem.n rho mv)))[p]? = some ab → ab.wr = true → env4 i = env3 (C.gd.length + p) →
      (∃ ab0, (memX C.gd s'.bl).get (C.gd.length + p) = some ab0 ∧ ab0.wr = true) ∧ ab.R env4 (mem.n + mv.length) B w' (env4 i) := fun p i ab h hw hi => by
    rw [List.getElem?_map] at h
    obtain ⟨ab0, h0, rfl⟩ := Option.map_eq_some_iff.1 h
    rcases getL_get h0 with h0 | rfl
    · have hb := AB.ren_R hren (hm.blk _ _ h0)
      refine ⟨⟨ab0, h0, AB.ren_wr hw⟩, ?_⟩
      rw [hi]
      exact AB.R_wr hb hw fun hB => AB.not_base hb hw (g2 _ hB)
    · cases hw
  have hguard : ∀ i ab, mem.get i = some ab → (i ∈ rho → ab.wr = false) → ab.wr = true → guard w (envL C.gd.length rho env) (memX C.gd s.bl) (env i) := fun i ab hi hnr hw => by
    refine ⟨(AB.heap_lt (hr.mem.blk i ab hi) hw).1, fun c abc hc hwc he => ?_⟩
    rcases memX_get hc with ⟨_, q, _, rfl⟩ | ⟨j, rfl, hj⟩
    · cases hwc
    · obtain ⟨b, hb, ab1, h1, h2⟩ : ∃ b, rho[j]? = some b ∧ ∃ ab1, mem.get b = some ab1 ∧ ab1.wr = true := by
        unfold lookL at hlook
        split at hlook
        · cases hlook
          rw [List.getElem?_map] at hj
          obtain ⟨b, hb, he⟩ := Option.map_eq_some_iff.1 hj
          refine ⟨b, hb, ?_⟩
          cases hq : mem.get b with
          | none => rw [hq] at he; subst he; cases hwc
          | some ab1 => rw [hq] at he; subst he; exact ⟨ab1, rfl, AB.ren_wr hwc⟩
        · cases hlook
      rw [hat j b hb] at he
      have hne : b ≠ i := fun e => by
        have := hnr (e ▸ List.mem_of_getElem? hb)
        rw [this] at hw; cases hw
      exact hr.mem.sep b i ab1 ab h1 hi hne h2 hw he
  have alen : ((getL (memX C.gd s'.bl) C.gd.length mv).map (AB.ren (backNo C.gd.length mem.n rho mv))).length = mv.length := by simp [getL_len]
  have kinds : ∀ i ab, (mergeT mem.n mem.t 0 rho mv ((getL (memX C.gd s'.bl) C.gd.length mv).map (AB.ren (backNo C.gd.length mem.n rho mv)))).get i = some ab →
      (ab = .gone ∧ i < mem.n) ∨ (∃ p ab0, i < mem.n + mv.length ∧ ab.wr = true ∧ env4 i = env3 (C.gd.length + p) ∧ (memX C.gd s'.bl).get (C.gd.length + p) = some ab0 ∧ ab0.wr = true ∧ ab.R env4 (mem.n + mv.length) B w' (env4 i) ∧ ((rho[p]? = some i ∧ mv[p]? = some false) ∨ (i = mem.n + p ∧ mv[p]? = some true))) ∨
      (mem.get i = some ab ∧ (i ∈ rho → ab.wr = false)) := fun i ab hi => by
    rcases mergeT_get hlen alen hi with ⟨q1, q2⟩ | ⟨p, q1, q2, q3, q4⟩ | ⟨p, q1, q2, q3, q4⟩ | q
    · exact .inl ⟨q1, (l5 i q2).2⟩
    · obtain ⟨h1, h2⟩ := hkept p i q1 q2
      have he : env4 i = env3 (C.gd.length + p) := (e1 i h2).trans h1.symm
      obtain ⟨⟨ab0, p1, p2⟩, p3⟩ := hpart p i ab q3 q4 he
      exact .inr (.inl ⟨p, ab0, by omega, q4, he, p1, p2, p3, .inl ⟨q1, q2⟩⟩)
    · have hi : i = mem.n + p := by omega
      have he : env4 i = env3 (C.gd.length + p) := by rw [hi]; exact e2 p
      obtain ⟨⟨ab0, p1, p2⟩, p3⟩ := hpart p i ab q2 q4 he
      have := (List.getElem?_eq_some_iff.1 q1).1
      exact .inr (.inl ⟨p, ab0, by omega, q4, he, p1, p2, p3, .inr ⟨hi, q1⟩⟩)
    · exact .inr (.inr q)
  refine hk e _ _ env4 a' w' hs ⟨hR.size.trans (slots_sz.trans slots_sz.symm), fun t => slots_R fun p hp ht => ?_, by rw [slots_df]; exact dfs_nil hR.defers slots_df rfl, ⟨hK, fun b hb => Nat.lt_of_lt_of_le (hr.mem.base b hb) hm.below.grown.size, fun i ab hi => ?_, fun i ab hi => ?_, fun i j x y hi hj hij hx hy => ?_, fun p hp => ?_, hr.mem.gd.below ⟨hm.below.grown, fun b hb => hm.below.block b (g2 b hb)⟩⟩⟩ hx4
  · obtain ⟨q, hq, rfl⟩ := List.mem_map.1 hp
    dsimp only at ht
    subst ht
    have := AV.ren_R hren (hsl q hq)
    exact this
  · rcases kinds i ab hi with ⟨_, h⟩ | ⟨_, _, h, _⟩ | ⟨h, _⟩
    · show i < mem.n + mv.length; omega
    · exact h
    · have := hr.mem.lt i ab h
      show i < mem.n + mv.length; omega
  · rcases kinds i ab hi with ⟨rfl, _⟩ | ⟨_, _, _, _, _, _, _, h, _⟩ | ⟨h1, h2⟩
    · trivial
    · exact h
    · rw [e1 i (hr.mem.lt i ab h1)]
      have hb := AB.R_ext hx4 (hr.mem.blk i ab h1)
      refine AB.R_same hb (fun hw => ?_) (fun hB => hm.below.block _ (g2 _ hB))
      exact hm.below.block _ (hguard i ab h1 h2 hw)
  · rcases kinds i x hi with ⟨rfl, _⟩ | ⟨p, _, _, _, he, h1, h2, _, h3⟩ | ⟨h1, h2⟩
    · cases hx
    · rcases kinds j y hj with ⟨rfl, _⟩ | ⟨q, _, _, _, he', h1', h2', _, h3'⟩ | ⟨h1', h2'⟩
      · cases hy
      · rw [he, he']
        refine hm.sep _ _ _ _ h1 h1' (fun e => hij ?_) h2 h2'
        have e : p = q := by omega
        subst e
        rcases h3 with ⟨r1, r2⟩ | ⟨r1, r2⟩ <;> rcases h3' with ⟨r1', r2'⟩ | ⟨r1', r2'⟩
        · rw [r1] at r1'; exact Option.some.inj r1'
        · rw [r2] at r2'; cases r2'
        · rw [r2] at r2'; cases r2'
        · omega
      · rw [he, e1 j (hr.mem.lt j y h1')]
        exact fun e => AB.not_base (hm.blk _ _ h1) h2 (e ▸ hguard j y h1' h2' hy)
    · rcases kinds j y hj with ⟨rfl, _⟩ | ⟨q, _, _, _, he', h1', h2', _, h3'⟩ | ⟨h1', h2'⟩
      · cases hy
      · rw [he', e1 i (hr.mem.lt i x h1)]
        exact fun e => AB.not_base (hm.blk _ _ h1') h2' (e ▸ hguard i x h1 h2 hx)
      · rw [e1 i (hr.mem.lt i x h1), e1 j (hr.mem.lt j y h1')]
        exact hr.mem.sep i j x y h1 h1' hij hx hy
  · obtain ⟨q1, q2⟩ := hr.mem.gl p hp
    exact ⟨(e1 _ q2).trans q1, by show p.2 < mem.n + mv.length; omega⟩
end

end Go.Ax
