import Derived.Test.YtbgneeokjhepcaaGreatDoorZ4
import Derived.ChangeSlices
import Derived.Test.YtbgneeokjhepcaaGreatDoorRows
import Derived.Laws.Externs
namespace Go.Ax
open Go Go.RowKit
def CV.ren (f : Nat → Option Nat) : CV → Option CV
  | .p b o => match f b with | some b' => some (.p b' o) | none => none
  | .r v => some (.r v)
def renCVs (f : Nat → Option Nat) : List CV → Option (List CV)
  | [] => some []
  | c :: cs => match c.ren f, renCVs f cs with | some x, some xs => some (x :: xs) | _, _ => none
def SV.ren (f : Nat → Option Nat) : SV → SV
  | .ptr b o => match f b with | some b' => .ptr b' o | none => .any
  | .ptrS b o => match f b with | some b' => .ptrS b' o | none => .any
  | .ptrR b g o => match f b, f g with | some b', some g' => .ptrR b' g' o | _, _ => .any
  | .slice b o n c => match f b with | some b' => .slice b' o n c | none => .any
  | .slx b o n => match f b with | some b' => .slx b' o n | none => .any
  | .fn g caps => match renCVs f caps with | some l => .fn g l | none => .any
  | .sq b g o n => match f b, f g with | some b', some g' => .sq b' g' o n | _, _ => .any
  | .slq b o n => match f b with | some b' => .slq b' o n | none => .any
  | .slr b g o n => match f b, f g with | some b', some g' => .slr b' g' o n | _, _ => .any
  | .mp b => match f b with | some b' => .mp b' | none => .any
  | .yl b => match f b with | some b' => .yl b' | none => .any
  | .fnb g b o => match f b with | some b' => .fnb g b' o | none => .any
  | s => s
def TV.ren (f : Nat → Option Nat) : TV → TV
  | .one s => .one (s.ren f)
  | .agg l => .agg (l.map (SV.ren f))
def AV.ren (f : Nat → Option Nat) : AV → AV
  | .one s => .one (s.ren f)
  | .agg l => .agg (l.map (SV.ren f))
  | .tup l => .tup (l.map (TV.ren f))
def AB.ren (f : Nat → Option Nat) : AB → AB
  | .gone => .gone
  | .cells t l => .cells t (l.map fun s => (s.ren f).sym)
  | .row t l => .row t (l.map (SV.ren f))
  | .ro l => .ro (l.map (SV.ren f))
  | .seq t k L g => match f g with | some g' => .seq t k L g' | none => .gone
  | .rseq k L g => match f g with | some g' => .rseq k L g' | none => .gone
  | .mp k kv es => .mp k kv es
  | .fz t l => .fz t (l.map (SV.ren f))
  | .num c => .num c
  | .ob .df => .ob .df
  | .ob (.lp ..) => .gone
section
variable {env env' : Nat → Nat} {m m' : Nat} {f : Nat → Option Nat}
def RenOk (f : Nat → Option Nat) (env env' : Nat → Nat) (m' : Nat) : Prop := ∀ b b', f b = some b' → b' < m' ∧ env' b' = env b
theorem renCVs_ok (hf : RenOk f env env' m') : ∀ {l l' : List CV}, renCVs f l = some l' → (∀ c ∈ l', c.ok m') ∧ l'.map (CV.conc env') = l.map (CV.conc env)
  | [], l', h => by cases h; exact ⟨fun c hc => (by cases hc), rfl⟩
  | c :: cs, l', h => by
    simp only [renCVs] at h
    split at h
    · rename_i x xs hx hxs
      cases h
      obtain ⟨q1, q2⟩ := renCVs_ok hf hxs
      have : x.ok m' ∧ x.conc env' = c.conc env := by
        cases c with
        | p b o =>
          simp only [CV.ren] at hx
          split at hx
          · rename_i b' hb
            cases hx
            obtain ⟨p1, p2⟩ := hf b b' hb
            exact ⟨p1, by simp only [CV.conc, p2]⟩
          · cases hx
        | r v => cases hx; exact ⟨trivial, rfl⟩
      refine ⟨fun c hc => ?_, by rw [List.map_cons, List.map_cons, this.2, q2]⟩
      rcases List.mem_cons.1 hc with rfl | hc
      · exact this.1
      · exact q1 c hc
    · cases h
theorem SV.ren_R (hf : RenOk f env env' m') {s : SV} {v : Value} (h : s.R env m v) : (s.ren f).R env' m' v := by
  cases s with
  | any => trivial
  | li k n => exact h
  | si k n => exact h
  | lb b => exact h
  | sb b => exact h
  | raw v => exact h
  | e0 => exact h
  | st L => exact h
  | mp b =>
    simp only [SV.ren]
    split
    · rename_i b' hb; obtain ⟨q1, q2⟩ := hf b b' hb; obtain ⟨_, rfl⟩ := h; exact ⟨q1, by simp only [SV.conc, q2]⟩
    · trivial
  | yl b =>
    simp only [SV.ren]
    split
    · rename_i b' hb; obtain ⟨q1, q2⟩ := hf b b' hb; obtain ⟨_, rfl⟩ := h; exact ⟨q1, by simp only [SV.conc, q2]⟩
    · trivial
  | fnb g b o =>
    simp only [SV.ren]
    split
    · rename_i b' hb; obtain ⟨q1, q2⟩ := hf b b' hb; obtain ⟨_, rfl⟩ := h; exact ⟨q1, by simp only [SV.conc, q2]⟩
    · trivial
  | ptr b o =>
    simp only [SV.ren]
    split
    · rename_i b' hb; obtain ⟨q1, q2⟩ := hf b b' hb; obtain ⟨_, rfl⟩ := h; exact ⟨q1, by simp only [SV.conc, q2]⟩
    · trivial
  | ptrS b o =>
    simp only [SV.ren]
    split
    · rename_i b' hb; obtain ⟨q1, q2⟩ := hf b b' hb; obtain ⟨_, rfl⟩ := h; exact ⟨q1, by simp only [SV.conc, q2]⟩
    · trivial
  | ptrR b g o =>
    simp only [SV.ren]
    split
    · rename_i b' g' hb hg
      obtain ⟨q1, q2⟩ := hf b b' hb
      obtain ⟨q3, q4⟩ := hf g g' hg
      obtain ⟨_, rfl⟩ := h
      exact ⟨⟨q1, q3⟩, by simp only [SV.conc, q2, q4]⟩
    · trivial
  | slr b g o n =>
    simp only [SV.ren]
    split
    · rename_i b' g' hb hg
      obtain ⟨q1, q2⟩ := hf b b' hb
      obtain ⟨q3, q4⟩ := hf g g' hg
      obtain ⟨_, p, c, h1, h2, rfl, h3⟩ := h
      exact ⟨⟨q1, q3⟩, p, c, h1, h2, rfl, by rw [q2, q4]; exact h3⟩
    · trivial
  | slice b o n c =>
    simp only [SV.ren]
    split
    · rename_i b' hb; obtain ⟨q1, q2⟩ := hf b b' hb; obtain ⟨h1, rfl⟩ := h; exact ⟨⟨q1, h1.2⟩, by simp only [SV.conc, q2]⟩
    · trivial
  | slx b o n =>
    simp only [SV.ren]
    split
    · rename_i b' hb; obtain ⟨q1, q2⟩ := hf b b' hb; obtain ⟨_, c, h1, h2, rfl⟩ := h; exact ⟨q1, c, h1, h2, by rw [q2]⟩
    · trivial
  | fn g caps =>
    simp only [SV.ren]
    split
    · rename_i l hl
      obtain ⟨q1, q2⟩ := renCVs_ok hf hl
      obtain ⟨_, rfl⟩ := h
      exact ⟨q1, by simp only [SV.conc, q2]⟩
    · trivial
  | sq b g o n =>
    simp only [SV.ren]
    split
    · rename_i b' g' hb hg
      obtain ⟨q1, q2⟩ := hf b b' hb
      obtain ⟨q3, q4⟩ := hf g g' hg
      obtain ⟨_, o', h1, h2, h3, rfl⟩ := h
      rw [← q4] at h1 h2 h3
      exact ⟨⟨q1, q3⟩, o', h1, h2, h3, by rw [q2, q4]⟩
    · trivial
  | slq b o n =>
    simp only [SV.ren]
    split
    · rename_i b' hb
      obtain ⟨q1, q2⟩ := hf b b' hb
      obtain ⟨_, p, c, h1, h2, rfl, h3⟩ := h
      exact ⟨q1, p, c, h1, h2, rfl, by rw [q2]; exact h3⟩
    · trivial
theorem all2_ren (hf : RenOk f env env' m') : ∀ {l : List SV} {vs : List Value}, All2 (SV.R env m) l vs → All2 (SV.R env' m') (l.map (SV.ren f)) vs
  | [], [], _ => trivial
  | _ :: _, _ :: _, h => ⟨SV.ren_R hf h.1, all2_ren hf h.2⟩
  | [], _ :: _, h => h.elim
  | _ :: _, [], h => h.elim
theorem TV.ren_R (hf : RenOk f env env' m') {s : TV} {v : Value} (h : s.R env m v) : (s.ren f).R env' m' v := by
  cases s with
  | one s => exact SV.ren_R hf h
  | agg l => obtain ⟨vs, rfl, h⟩ := h; exact ⟨vs, rfl, all2_ren hf h⟩
theorem all2_renT (hf : RenOk f env env' m') : ∀ {l : List TV} {vs : List Value}, All2 (TV.R env m) l vs → All2 (TV.R env' m') (l.map (TV.ren f)) vs
  | [], [], _ => trivial
  | _ :: _, _ :: _, h => ⟨TV.ren_R hf h.1, all2_renT hf h.2⟩
  | [], _ :: _, h => h.elim
  | _ :: _, [], h => h.elim
theorem AV.ren_R (hf : RenOk f env env' m') {s : AV} {v : Value} (h : s.R env m v) : (s.ren f).R env' m' v := by
  cases s with
  | one s => exact SV.ren_R hf h
  | agg l => obtain ⟨vs, rfl, h⟩ := h; exact ⟨vs, rfl, all2_ren hf h⟩
  | tup l => obtain ⟨vs, rfl, h⟩ := h; exact ⟨vs, rfl, all2_renT hf h⟩
theorem all2_renS (hf : RenOk f env env' m') : ∀ {l : List SV} {vs : List Value}, All2 (SV.R env m) l vs → All2 (SV.R env' m') (l.map fun s => (s.ren f).sym) vs
  | [], [], _ => trivial
  | _ :: _, _ :: _, h => ⟨SV.sym_R (SV.ren_R hf h.1), all2_renS hf h.2⟩
  | [], _ :: _, h => h.elim
  | _ :: _, [], h => h.elim
theorem AB.ren_wr {ab : AB} (h : (ab.ren f).wr = true) : ab.wr = true := by
  cases ab with
  | gone => exact h
  | cells t l => rfl
  | row t l => rfl
  | ro l => exact h
  | seq t k L g => rfl
  | rseq k L g => simp only [AB.ren] at h; split at h <;> exact h
  | mp k kv es => rfl
  | fz t l => rfl
  | ob x => rfl
  | num c => exact h
theorem AB.ren_R (hf : RenOk f env env' m') {ab : AB} {B : Nat → Prop} {w : World} {b : Nat} (h : ab.R env m B w b) : (ab.ren f).R env' m' B w b := by
  cases ab with
  | gone => trivial
  | cells t l => obtain ⟨vs, h1, h2, h3⟩ := h; exact ⟨vs, h1, all2_renS hf h2, h3⟩
  | row t l => obtain ⟨vs, rest, h1, h2, h3⟩ := h; exact ⟨vs, rest, h1, all2_ren hf h2, h3⟩
  | ro l => obtain ⟨vs, rest, t, fr, h1, h2, h3⟩ := h; exact ⟨vs, rest, t, fr, h1, all2_ren hf h2, h3⟩
  | seq t k L g =>
    obtain ⟨rest, h1, h2, h3, h4⟩ := h
    simp only [AB.ren]
    split
    · rename_i g' hg
      obtain ⟨q1, q2⟩ := hf g g' hg
      exact ⟨rest, h1, by rw [h2, q2], q1, h4⟩
    · trivial
  | rseq k L g =>
    simp only [AB.ren]
    split
    · rename_i g' hg
      obtain ⟨q1, q2⟩ := hf g g' hg
      rcases h with h | ⟨front, rest, t, fr, h1, ⟨h2, h3, h4⟩, h5⟩
      · exact .inl h
      · exact .inr ⟨front, rest, t, fr, h1, ⟨by rw [h2, q2], q1, h4⟩, h5⟩
    · trivial
  | mp k kv es => exact h
  | fz t l => obtain ⟨vs, fr, h1, h2, h3⟩ := h; exact ⟨vs, fr, h1, all2_ren hf h2, h3⟩
  | num c => exact h
  | ob x => cases x with
    | df => exact h
    | lp => trivial
end
structure LS where
  sl : List (Nat × AV)
  bl : List AB
inductive Root where
  | fix (n : Nat)
  | of (t : Nat)
def Root.find (tm : TM) : Root → Option (List Nat)
  | .fix n => some [n]
  | .of t => match tm.get t with
    | .one (.sq b g _ _) => some [b, g]
    | .one (.slq b _ _) => some [b]
    | .one (.slr b g _ _) => some [b, g]
    | .one (.ptr b _) => some [b]
    | .one (.slice b _ _ _) => some [b]
    | _ => none
def findAll (tm : TM) : List Root → Option (List Nat)
  | [] => some []
  | r :: rs => match r.find tm, findAll tm rs with | some a, some b => some (a ++ b) | _, _ => none
def posOf (b : Nat) : Nat → List Nat → Option Nat
  | _, [] => none
  | i, c :: cs => match Nat.beq b c with | true => some i | false => posOf b (i + 1) cs
def newNo (g : Nat) (rho : List Nat) (b : Nat) : Option Nat := match Nat.blt b g with | true => some b | false => posOf b g rho
def distinct : List Nat → Bool
  | [] => true
  | b :: bs => (!bs.any (Nat.beq b)) && distinct bs
def lookL (g : Nat) (ts rho : List Nat) (tm : TM) (mem : Mem) : Option LS :=
  match distinct rho && rho.all (fun b => Nat.ble g b && Nat.blt b mem.n) with
  | true => some ⟨ts.map fun t => (t, (tm.get t).ren (newNo g rho)), rho.map fun b => match mem.get b with | some ab => ab.ren (newNo g rho) | none => .gone⟩
  | false => none
theorem posOf_spec {b : Nat} : ∀ {l : List Nat} {i j : Nat}, posOf b i l = some j → i ≤ j ∧ l[j - i]? = some b
  | [], _, _, h => by cases h
  | c :: cs, i, j, h => by
    simp only [posOf] at h
    split at h
    · rename_i hb
      cases h
      exact ⟨Nat.le_refl _, by simp [Nat.eq_of_beq_eq_true hb]⟩
    · obtain ⟨h1, h2⟩ := posOf_spec h
      refine ⟨by omega, ?_⟩
      rw [show j - i = (j - (i + 1)) + 1 by omega, List.getElem?_cons_succ]
      exact h2
theorem distinct_ne : ∀ {l : List Nat}, distinct l = true → ∀ {i j : Nat} {a b : Nat}, l[i]? = some a → l[j]? = some b → i ≠ j → a ≠ b
  | [], _, i, j, a, b, h1, _, _ => by cases h1
  | c :: cs, h, i, j, a, b, h1, h2, hij => by
    simp only [distinct, Bool.and_eq_true, Bool.not_eq_true', List.any_eq_false] at h
    have notin : ∀ x, x ∈ cs → c ≠ x := fun x hx e => by
      have := h.1 x hx
      rw [e, Nat.beq_refl] at this
      exact absurd rfl this
    cases i with
    | zero =>
      cases j with
      | zero => exact absurd rfl hij
      | succ j =>
        simp at h1 h2; subst h1
        exact notin b (List.mem_of_getElem? h2)
    | succ i =>
      cases j with
      | zero => simp at h1 h2; subst h2; exact fun e => notin a (List.mem_of_getElem? h1) e.symm
      | succ j => exact distinct_ne h.2 (by simpa using h1) (by simpa using h2) (by omega)
def envL (g : Nat) (rho : List Nat) (env : Nat → Nat) (i : Nat) : Nat := match Nat.blt i g with | true => env i | false => env (rho.getD (i - g) 0)
section
variable {C : Cfg} {B : Nat → Prop} {w0 w : World} {env : Nat → Nat} {tm : TM} {mem : Mem} {a : Act}
theorem blt_false {a b : Nat} (h : Nat.blt a b = false) : b ≤ a := by
  rcases Nat.lt_or_ge a b with h' | h'
  · have : Nat.blt a b = true := Nat.ble_eq_true_of_le h'
    rw [this] at h; cases h
  · exact h'
theorem newNo_ok {g : Nat} {rho : List Nat} : RenOk (newNo g rho) env (envL g rho env) (g + rho.length) := fun b b' h => by
  unfold newNo at h
  unfold envL
  split at h
  · rename_i hb
    cases h
    have hlt : b < g := Nat.le_of_ble_eq_true hb
    exact ⟨by omega, by rw [hb]⟩
  · obtain ⟨h1, h2⟩ := posOf_spec h
    have hlt := (List.getElem?_eq_some_iff.1 h2).1
    refine ⟨by omega, ?_⟩
    rw [show Nat.blt b' g = false from by cases hq : Nat.blt b' g with
      | false => rfl
      | true => have : b' < g := Nat.le_of_ble_eq_true hq; omega]
    simp only [List.getD_eq_getElem?_getD, h2, Option.getD_some]
theorem memX_get {G : List (Nat × List SV)} {xs : List AB} {i : Nat} {ab : AB} (hi : (memX G xs).get i = some ab) : (i < G.length ∧ ∃ p, G[i]? = some p ∧ ab = .ro p.2) ∨ (∃ j, i = G.length + j ∧ xs[j]? = some ab) := by
  rcases ofList_get _ _ _ _ _ hi with h | ⟨_, h⟩
  · rw [Tr.get_mk] at h; cases h
  · simp only [Nat.sub_zero] at h
    by_cases hl : i < G.length
    · rw [List.getElem?_append_left (by simpa using hl), List.getElem?_map] at h
      obtain ⟨p, hp, rfl⟩ := Option.map_eq_some_iff.1 h
      exact .inl ⟨hl, p, hp, rfl⟩
    · rw [List.getElem?_append_right (by simpa using hl)] at h
      exact .inr ⟨i - G.length, by omega, by simpa using h⟩
theorem glob_env (hgl : C.gl = glFrom 0 C.gd) (h : MR C B w0 env mem w) {i : Nat} {p : Nat × List SV} (hp : C.gd[i]? = some p) : env i = p.1 ∧ i < mem.n := by
  have key : ∀ {l : List (Nat × List SV)} {k i : Nat} {p : Nat × List SV}, l[i]? = some p → (p.1, k + i) ∈ glFrom k l := by
    intro l
    induction l with
    | nil => intro k i p h; cases h
    | cons x l ih =>
      intro k i p h
      cases i with
      | zero => simp at h; subst h; simp [glFrom]
      | succ i => simp only [glFrom]; refine List.mem_cons_of_mem _ ?_; rw [show k + (i + 1) = k + 1 + i by omega]; exact ih (by simpa using h)
  have := h.gl (p.1, 0 + i) (by rw [hgl]; exact key hp)
  simpa using this
theorem Rel.look (hgl : C.gl = glFrom 0 C.gd) (hr : Rel C B w0 env tm mem a w) {ts rho : List Nat} {s : LS} (h : lookL C.gd.length ts rho tm mem = some s) :
    (∀ p ∈ s.sl, p.2.R (envL C.gd.length rho env) (memX C.gd s.bl).n (a.tmps.getD p.1 undef)) ∧ MR C B w0 (envL C.gd.length rho env) (memX C.gd s.bl) w ∧ s.bl.length = rho.length ∧ distinct rho = true ∧ ∀ b ∈ rho, C.gd.length ≤ b ∧ b < mem.n := by
  unfold lookL at h
  split at h
  · rename_i hd
    cases h
    simp only [Bool.and_eq_true] at hd
    obtain ⟨hd, hall⟩ := hd
    have hok := newNo_ok (env := env) (g := C.gd.length) (rho := rho)
    have hn : (memX C.gd (rho.map fun b => match mem.get b with | some ab => ab.ren (newNo C.gd.length rho) | none => .gone)).n = C.gd.length + rho.length := by simp [memX]
    have hnew : ∀ j b, rho[j]? = some b → envL C.gd.length rho env (C.gd.length + j) = env b := fun j b hj => by
      unfold envL
      rw [show Nat.blt (C.gd.length + j) C.gd.length = false from by cases hq : Nat.blt (C.gd.length + j) C.gd.length with
        | false => rfl
        | true => have : C.gd.length + j < C.gd.length := Nat.le_of_ble_eq_true hq; omega]
      simp [List.getD_eq_getElem?_getD, hj]
    have hglob : ∀ i p, C.gd[i]? = some p → envL C.gd.length rho env i = p.1 := fun i p hp => by
      unfold envL
      rw [show Nat.blt i C.gd.length = true from Nat.ble_eq_true_of_le (List.getElem?_eq_some_iff.1 hp).1]
      exact (glob_env hgl hr.mem hp).1
    have hblk : ∀ j ab, (rho.map fun b => match mem.get b with | some ab => ab.ren (newNo C.gd.length rho) | none => .gone)[j]? = some ab → ∃ b, rho[j]? = some b ∧ ((∃ ab0, mem.get b = some ab0 ∧ ab = ab0.ren (newNo C.gd.length rho)) ∨ ab = .gone) := fun j ab hj => by
      rw [List.getElem?_map] at hj
      obtain ⟨b, hb, rfl⟩ := Option.map_eq_some_iff.1 hj
      refine ⟨b, hb, ?_⟩
      cases hq : mem.get b with
      | none => exact .inr rfl
      | some ab0 => exact .inl ⟨ab0, rfl, rfl⟩
    refine ⟨fun p hp => ?_, ⟨hr.mem.below, hr.mem.base, fun i ab hi => ?_, fun i ab hi => ?_, fun i j x y hi hj hij hx hy => ?_, fun p hp => ?_, hr.mem.gd⟩, by simp, hd, fun b hb => ?_⟩
    · obtain ⟨t', _, rfl⟩ := List.mem_map.1 hp
      rw [hn]
      exact AV.ren_R hok (hr.tmp t')
    · rw [hn]
      rcases memX_get hi with ⟨h1, _⟩ | ⟨j, rfl, hj⟩
      · omega
      · have := (List.getElem?_eq_some_iff.1 hj).1
        simp at this; omega
    · rw [hn]
      rcases memX_get hi with ⟨_, p, hp, rfl⟩ | ⟨j, rfl, hj⟩
      · obtain ⟨h1, vs, rest, t, fr, h2, h3⟩ := hr.mem.gd p (List.mem_of_getElem? hp)
        rw [hglob i p hp]
        exact ⟨vs, rest, t, fr, h2, h3.imp fun _ _ => SV.R_ext ⟨Nat.zero_le _, fun _ hi => absurd hi (Nat.not_lt_zero _)⟩, h1⟩
      · obtain ⟨b, hb, ⟨ab0, h0, rfl⟩ | rfl⟩ := hblk j ab hj
        · rw [hnew j b hb]
          exact AB.ren_R hok (hr.mem.blk b ab0 h0)
        · trivial
    · rcases memX_get hi with ⟨_, p, _, rfl⟩ | ⟨i', rfl, hi'⟩
      · cases hx
      rcases memX_get hj with ⟨_, p, _, rfl⟩ | ⟨j', rfl, hj'⟩
      · cases hy
      obtain ⟨b, hb, ⟨ab0, h0, rfl⟩ | rfl⟩ := hblk i' x hi'
      · obtain ⟨c, hc, ⟨ab1, h1, rfl⟩ | rfl⟩ := hblk j' y hj'
        · rw [hnew i' b hb, hnew j' c hc]
          exact hr.mem.sep b c ab0 ab1 h0 h1 (distinct_ne hd hb hc (by omega)) (AB.ren_wr hx) (AB.ren_wr hy)
        · cases hy
      · cases hx
    · rw [hgl] at hp
      obtain ⟨j, h1, q, h2, h3⟩ := mem_glFrom hp
      have hj : p.2 = j := by omega
      rw [hj, hn]
      have hl := (List.getElem?_eq_some_iff.1 h2).1
      exact ⟨by rw [hglob j q h2]; exact h3, by omega⟩
    · have := List.all_eq_true.1 hall b hb
      simp only [Bool.and_eq_true] at this
      exact ⟨Nat.le_of_ble_eq_true this.1, Nat.le_of_ble_eq_true this.2⟩
  · cases h
def AV.fits (x y : AV) : Prop := x = y ∨ x.sym = y ∨ y = .any
def fitsL : List (Nat × AV) → List (Nat × AV) → Prop
  | _, [] => True
  | [], _ :: _ => False
  | p :: l, q :: l' => p.1 = q.1 ∧ p.2.fits q.2 ∧ fitsL l l'
def LS.fits (s s' : LS) : Prop := fitsL s.sl s'.sl ∧ s.bl = s'.bl
theorem AV.fits_R {x y : AV} (h : x.fits y) {env : Nat → Nat} {m : Nat} {v : Value} (hx : x.R env m v) : y.R env m v := by
  rcases h with rfl | rfl | rfl
  · exact hx
  · exact AV.sym_R hx
  · trivial
theorem fitsL_mem : ∀ {l l' : List (Nat × AV)}, fitsL l l' → ∀ q ∈ l', ∃ p ∈ l, p.1 = q.1 ∧ p.2.fits q.2
  | _, [], _, q, hq => by cases hq
  | [], _ :: _, h, _, _ => h.elim
  | p :: l, q :: l', h, q', hq => by
    rcases List.mem_cons.1 hq with rfl | hq
    · exact ⟨p, List.mem_cons_self .., h.1, h.2.1⟩
    · obtain ⟨p', h1, h2⟩ := fitsL_mem h.2.2 q' hq
      exact ⟨p', List.mem_cons_of_mem _ h1, h2⟩
theorem dfs_nil {env env' : Nat → Nat} {m m' : Nat} {df df' : List DE} {ds : List Deferred} (h : Dfs env m df ds) (hd : df = []) (hd' : df' = []) : Dfs env' m' df' ds := by
  subst hd; subst hd'
  cases ds with
  | nil => trivial
  | cons _ _ => exact h.elim
theorem rel_fits {sz : Nat} {sl : List (Nat × AV)} (hsl : ∀ p ∈ sl, p.2.R env mem.n (a.tmps.getD p.1 undef)) (hsz : a.tmps.size = sz) {df : List DE} (hdf : df = []) (hd : Dfs env mem.n df a.defers) (hm : MR C B w0 env mem w) {sl' : List (Nat × AV)} (hf : fitsL sl sl') : Rel C B w0 env (slots sz sl') mem a w := by
  refine ⟨hsz.trans slots_sz.symm, fun t => slots_R fun q hq ht => ?_, by subst hdf; rw [slots_df]; exact hd, hm⟩
  obtain ⟨p, h1, h2, h3⟩ := fitsL_mem hf q hq
  subst ht
  rw [← h2]
  exact AV.fits_R h3 (hsl p h1)
def stays (g : Nat) : Nat → List Bool → List Nat → Bool
  | _, [], [] => true
  | i, mv :: mvs, b :: bs => (mv || Nat.beq b (g + i)) && stays g (i + 1) mvs bs
  | _, _, _ => false
def lookI (g sz : Nat) (ts : List Nat) (ri : List Root) (mv : List Bool) (tm : TM) (mem : Mem) : Option LS :=
  match Nat.beq tm.sz sz, findAll tm ri, tm.df with
  | true, some rho, [] => match stays g 0 mv rho with
    | true => lookL g ts rho tm mem
    | false => none
  | _, _, _ => none
def endX (g sz : Nat) (ts : List Nat) (ri : List Root) (mv : List Bool) (X : AE → Option LS → Prop) : AE → TM → Mem → Out := fun e tm mem => .need (X e (lookI g sz ts ri mv tm mem)) (.done .any Mem.empty)
theorem stays_spec {g : Nat} : ∀ {mv : List Bool} {rho : List Nat} {i : Nat}, stays g i mv rho = true → mv.length = rho.length ∧ ∀ j, mv[j]? = some false → rho[j]? = some (g + (i + j))
  | [], [], _, _ => ⟨rfl, fun j h => by cases h⟩
  | m :: mvs, b :: bs, i, h => by
    simp only [stays, Bool.and_eq_true, Bool.or_eq_true] at h
    obtain ⟨q1, q2⟩ := stays_spec h.2
    refine ⟨by simp [q1], fun j hj => ?_⟩
    cases j with
    | zero =>
      simp at hj; subst hj
      rcases h.1 with h | h
      · cases h
      · simp [Nat.eq_of_beq_eq_true h]
    | succ j =>
      have := q2 j (by simpa using hj)
      rw [show i + 1 + j = i + (j + 1) by omega] at this
      simpa using this
  | [], _ :: _, _, h => by cases h
  | _ :: _, [], _, h => by cases h
theorem lookI_sound (hgl : C.gl = glFrom 0 C.gd) (hr : Rel C B w0 env tm mem a w) {sz : Nat} {ts : List Nat} {ri : List Root} {mv : List Bool} {s : LS} (h : lookI C.gd.length sz ts ri mv tm mem = some s) :
    a.tmps.size = sz ∧ tm.df = [] ∧ ∃ env', (∀ p ∈ s.sl, p.2.R env' (memX C.gd s.bl).n (a.tmps.getD p.1 undef)) ∧ MR C B w0 env' (memX C.gd s.bl) w ∧ s.bl.length = mv.length ∧ ∀ j, mv[j]? = some false → env' (C.gd.length + j) = env (C.gd.length + j) := by
  unfold lookI at h
  split at h
  · rename_i rho hsz hrho hdf
    split at h
    · rename_i hst
      obtain ⟨q1, q2⟩ := stays_spec hst
      obtain ⟨p1, p2, p3, _, _⟩ := Rel.look hgl hr h
      refine ⟨hr.size.trans (Nat.eq_of_beq_eq_true hsz), hdf, _, p1, p2, p3.trans q1.symm, fun j hj => ?_⟩
      have := q2 j hj
      rw [Nat.zero_add] at this
      unfold envL
      rw [show Nat.blt (C.gd.length + j) C.gd.length = false from by cases hq : Nat.blt (C.gd.length + j) C.gd.length with
        | false => rfl
        | true => have : C.gd.length + j < C.gd.length := Nat.le_of_ble_eq_true hq; omega]
      simp [List.getD_eq_getElem?_getD, this]
    · cases h
  · cases h
def RoundOk {ι : Type} (St : ι → LS) (Inv : ι → Prop) (mu : ι → Nat) (Ex : ι → AE → LS → Prop) (i : ι) : AE → Option LS → Prop
  | .normal, some s => ∃ j, Inv j ∧ mu j < mu i ∧ (∀ e s', Ex j e s' → Ex i e s') ∧ s.fits (St j)
  | .exit id, some s => ∃ s', Ex i (.exit id) s' ∧ s.fits s'
  | .ret, some s => ∃ s', Ex i .ret s' ∧ s.fits s'
  | _, _ => False
theorem rounds (hC : COk C) (hgl : C.gl = glFrom 0 C.gd) {bd : Code} {n sz : Nat} {ts : List Nat} {ri : List Root} {mv : List Bool} {ι : Type} {St : ι → LS} {Inv : ι → Prop} {mu : ι → Nat} {Ex : ι → AE → LS → Prop}
    (step : ∀ i, Inv i → (exec C n (.run bd) (slots sz (St i).sl) (memX C.gd (St i).bl) (endX C.gd.length sz ts ri mv (RoundOk St Inv mu Ex i))).sat (fun _ _ => True)) {Q : Exit → Act → World → Prop} {ae : Nat → Nat} :
    ∀ (m : Nat) (i : ι), mu i = m → Inv i → ∀ (env : Nat → Nat) (a : Act) (w : World), Rel C B w0 env (slots sz (St i).sl) (memX C.gd (St i).bl) a w → (St i).bl.length = mv.length → (∀ j, mv[j]? = some false → env (C.gd.length + j) = ae j) →
      (∀ e s env' a' w', Ex i e s → s.bl.length = mv.length → Rel C B w0 env' (slots sz s.sl) (memX C.gd s.bl) a' w' → (∀ p ∈ s.sl, p.2.R env' (memX C.gd s.bl).n (a'.tmps.getD p.1 undef)) → (∀ j, mv[j]? = some false → env' (C.gd.length + j) = ae j) → Q e.conc a' w') → InLoopJ C.J bd Q a w := by
  intro m
  induction m using Nat.strongRecOn with
  | _ m ih =>
    intro i hm hI env a w hr hlen hae hk
    refine InLoopJ.round (body_step (P := fun e tm' mem' => RoundOk St Inv mu Ex i e (lookI C.gd.length sz ts ri mv tm' mem')) hC (step i hI) hr ?_)
    intro e tm' mem' env' a' w' hP hR hx
    have hkeep : ∀ j, mv[j]? = some false → env' (C.gd.length + j) = ae j := fun j hj => by
      rw [hx.2 _ ?_]
      · exact hae j hj
      · show C.gd.length + j < C.gd.length + (St i).bl.length
        have := (List.getElem?_eq_some_iff.1 hj).1
        omega
    have fin : ∀ s s', lookI C.gd.length sz ts ri mv tm' mem' = some s → s.fits s' → ∃ env2, s'.bl.length = mv.length ∧ Rel C B w0 env2 (slots sz s'.sl) (memX C.gd s'.bl) a' w' ∧ (∀ p ∈ s'.sl, p.2.R env2 (memX C.gd s'.bl).n (a'.tmps.getD p.1 undef)) ∧ (∀ j, mv[j]? = some false → env2 (C.gd.length + j) = ae j) := fun s s' hl hf => by
      obtain ⟨q1, qd, env2, q2, q3, q4, q5⟩ := lookI_sound hgl hR hl
      rw [← hf.2]
      refine ⟨env2, q4, rel_fits q2 q1 qd (dfs_nil hR.defers qd qd) q3 hf.1, fun q hq => ?_, fun j hj => (q5 j hj).trans (hkeep j hj)⟩
      obtain ⟨p, h1, h2, h3⟩ := fitsL_mem hf.1 q hq
      rw [← h2]
      exact AV.fits_R h3 (q2 p h1)
    cases e with
    | normal =>
      cases hl : lookI C.gd.length sz ts ri mv tm' mem' with
      | none => rw [hl] at hP; exact hP.elim
      | some s =>
        rw [hl] at hP
        obtain ⟨j, h1, h2, h3, h4⟩ := hP
        obtain ⟨env2, p1, p2, _, p3⟩ := fin s (St j) hl h4
        exact ih (mu j) (by omega) j rfl h1 env2 a' w' p2 p1 p3 fun e s' env3 a3 w3 he => hk e s' env3 a3 w3 (h3 e s' he)
    | exit id =>
      cases hl : lookI C.gd.length sz ts ri mv tm' mem' with
      | none => rw [hl] at hP; exact hP.elim
      | some s =>
        rw [hl] at hP
        obtain ⟨s', h1, h2⟩ := hP
        obtain ⟨env2, p1, p2, p4, p3⟩ := fin s s' hl h2
        exact hk _ s' env2 a' w' h1 p1 p2 p4 p3
    | ret =>
      cases hl : lookI C.gd.length sz ts ri mv tm' mem' with
      | none => rw [hl] at hP; exact hP.elim
      | some s =>
        rw [hl] at hP
        obtain ⟨s', h1, h2⟩ := hP
        obtain ⟨env2, p1, p2, p4, p3⟩ := fin s s' hl h2
        exact hk _ s' env2 a' w' h1 p1 p2 p4 p3
    | goto l => exact hP.elim
    | panic v => exact hP.elim
def backNo (g n : Nat) (rho : List Nat) (mv : List Bool) (c : Nat) : Option Nat :=
  match Nat.blt c g with
  | true => some c
  | false => match rho[c - g]?, mv[c - g]? with
    | some b, some false => some b
    | some _, some true => some (n + (c - g))
    | _, _ => none
def mergeT (n : Nat) : Tr AB → Nat → List Nat → List Bool → List AB → Tr AB
  | t, j, b :: bs, m :: ms, ab :: abs => mergeT n (match m with
    | true => match ab.wr with
      | true => (t.set b .gone).set (n + j) ab
      | false => t.set b .gone
    | false => match ab.wr with
      | true => t.set b ab
      | false => match t.get b with
        | some old => match old.wr with | true => t.set b .gone | false => t
        | none => t) (j + 1) bs ms abs
  | t, _, _, _, _ => t
def getL (mem : Mem) : Nat → List Bool → List AB
  | _, [] => []
  | i, _ :: ms => (match mem.get i with | some ab => ab | none => .gone) :: getL mem (i + 1) ms
def seqify (t : Nat) (tm : TM) (mem : Mem) : TM × Mem :=
  match tm.get t with
  | .one (.slice b 0 n c) => match mem.get b with
    | some (.cells ty l) => match kindOf l with
      | some k => match intsOf k l, Nat.beq n c && Nat.beq n l.length && Nat.ble n 9223372036854775807 && Nat.blt t tm.sz with
        | some L, true => (tm.set t (.one (.sq b mem.n 0 n)), ⟨mem.n + 1, mem.t.set b (.seq ty k L mem.n)⟩)
        | _, _ => (tm, mem)
      | none => (tm, mem)
    | _ => (tm, mem)
  | _ => (tm, mem)
def seqifyAll : List Nat → TM → Mem → TM × Mem
  | [], tm, mem => (tm, mem)
  | t :: ts, tm, mem => match seqify t tm mem with | (tm', mem') => seqifyAll ts tm' mem'
theorem seqify_sound {t : Nat} (hr : Rel C B w0 env tm mem a w) : ∃ env', Rel C B w0 env' (seqify t tm mem).1 (seqify t tm mem).2 a w ∧ Ext env mem.n env' (seqify t tm mem).2.n := by
  have triv : ∃ env', Rel C B w0 env' tm mem a w ∧ Ext env mem.n env' mem.n := ⟨env, hr, Ext.refl _ _⟩
  unfold seqify
  split
  · rename_i b n c ht
    split
    · rename_i ty l hb
      split
      · rename_i k hk
        split
        · rename_i L hL hc
          simp only [Bool.and_eq_true] at hc
          obtain ⟨⟨⟨h1, h2⟩, h3⟩, h4⟩ := hc
          have h1 := Nat.eq_of_beq_eq_true h1
          have h2 := Nat.eq_of_beq_eq_true h2
          have h3 := Nat.le_of_ble_eq_true h3
          have h4 : t < tm.sz := Nat.le_of_ble_eq_true h4
          obtain ⟨vs, hh, hR, hB⟩ := hr.mem.blk b _ hb
          obtain ⟨e1, e2⟩ := intsOf_R hL hR
          have hlen : L.length = n := by have := hR.length; rw [e1] at this; simpa [h2] using this.symm
          have hbn := hr.mem.lt b _ hb
          let env' : Nat → Nat := fun i => if i < mem.n then env i else n
          have e0 : ∀ i, i < mem.n → env' i = env i := fun i hi => if_pos hi
          have eg : env' mem.n = n := if_neg (by omega)
          have hx : Ext env mem.n env' (mem.n + 1) := ⟨by omega, e0⟩
          have hseq : (AB.seq ty k L mem.n).R env' (mem.n + 1) B w (env' b) := by
            rw [e0 b hbn]
            exact ⟨[], by rw [List.append_nil, ← e1]; exact hh, by rw [eg]; simp [hlen], by omega, e2, hB⟩
          have hget : ∀ i ab, (Tr.set mem.t b (.seq ty k L mem.n)).get i = some ab → (i = b ∧ ab = .seq ty k L mem.n) ∨ (i ≠ b ∧ mem.get i = some ab) := fun i ab hi => by
            by_cases e : i = b
            · subst e; exact .inl ⟨rfl, Tr.get_set_eq _ _ _ _ hi⟩
            · rw [Tr.get_set_ne _ _ _ _ (Ne.symm e)] at hi; exact .inr ⟨e, hi⟩
          refine ⟨env', ⟨hr.size.trans (set_sz _ _ _).symm, fun u => ?_, by rw [set_df]; exact Dfs.ext hx hr.defers, ⟨hr.mem.below, hr.mem.base, fun i ab hi => ?_, fun i ab hi => ?_, fun i j x y hi hj hij hx' hy' => ?_, fun p hp => ?_, hr.mem.gd⟩⟩, hx⟩
          · unfold TM.set
            rw [show Nat.blt t tm.sz = true from Nat.ble_eq_true_of_le h4]
            simp only [TM.get]
            by_cases hut : t = u
            · subst hut
              cases hq : (tm.t.set t (.one (.sq b mem.n 0 n))).get t with
              | none => exact AV.R_any
              | some y =>
                rw [Tr.get_set_eq _ _ _ _ hq]
                have hv := hr.tmp t
                rw [ht] at hv
                obtain ⟨_, hv⟩ := hv
                refine ⟨⟨by omega, by omega⟩, 0, .inl rfl, by rw [eg]; omega, by rw [eg]; exact h3, ?_⟩
                rw [hv, eg, e0 b hbn, ← h1]
                rfl
            · rw [Tr.get_set_ne _ _ _ _ hut]
              exact AV.R_ext hx (hr.tmp u)
          · show i < mem.n + 1
            rcases hget i ab hi with ⟨rfl, _⟩ | ⟨_, hi⟩
            · omega
            · have := hr.mem.lt i ab hi; omega
          · rcases hget i ab hi with ⟨rfl, rfl⟩ | ⟨_, hi⟩
            · exact hseq
            · rw [e0 i (hr.mem.lt i ab hi)]; exact AB.R_ext hx (hr.mem.blk i ab hi)
          · have old : ∀ i ab, (Tr.set mem.t b (.seq ty k L mem.n)).get i = some ab → ab.wr = true → ∃ c, mem.get i = some c ∧ c.wr = true := fun i ab hi hw => by
              rcases hget i ab hi with ⟨rfl, rfl⟩ | ⟨_, hi⟩
              · exact ⟨_, hb, rfl⟩
              · exact ⟨ab, hi, hw⟩
            obtain ⟨x', q1, q2⟩ := old i x hi hx'
            obtain ⟨y', q3, q4⟩ := old j y hj hy'
            rw [e0 i (hr.mem.lt i x' q1), e0 j (hr.mem.lt j y' q3)]
            exact hr.mem.sep i j x' y' q1 q3 hij q2 q4
          · obtain ⟨q1, q2⟩ := hr.mem.gl p hp
            exact ⟨(e0 _ q2).trans q1, by show p.2 < mem.n + 1; omega⟩
        · exact triv
      · exact triv
    · exact triv
  · exact triv
theorem seqifyAll_sound : ∀ {ts : List Nat} {env : Nat → Nat} {tm : TM} {mem : Mem}, Rel C B w0 env tm mem a w → ∃ env', Rel C B w0 env' (seqifyAll ts tm mem).1 (seqifyAll ts tm mem).2 a w ∧ Ext env mem.n env' (seqifyAll ts tm mem).2.n
  | [], env, tm, mem, hr => ⟨env, hr, Ext.refl _ _⟩
  | t :: ts, env, tm, mem, hr => by
    obtain ⟨env1, h1, h2⟩ := seqify_sound (t := t) hr
    obtain ⟨env2, h3, h4⟩ := seqifyAll_sound (ts := ts) h1
    exact ⟨env2, h3, h2.trans h4⟩
def lqF {ι : Type} (G : List (Nat × List SV)) (sz : Nat) (sqs ts : List Nat) (re : List Root) (mv : List Bool) (pi : LS → Option ι) (ok : ι → Prop) (out : ι → (AE → LS → Out) → Out) : TM → Mem → Option ((AE → TM → Mem → Out) → Out) := fun tm0 mem0 =>
  match seqifyAll sqs tm0 mem0 with
  | (tm, mem) =>
  match Nat.beq tm.sz sz, findAll tm re, tm.df with
  | true, some rho, [] => match lookL G.length ts rho tm mem, Nat.beq rho.length mv.length with
    | some s, true => match pi s with
      | some i => some fun k => .need (ok i) (out i fun e s' => match Nat.beq s'.bl.length mv.length with
        | true => k e (slots sz (s'.sl.map fun p => (p.1, p.2.ren (backNo G.length mem.n rho mv)))) ⟨mem.n + mv.length, mergeT mem.n mem.t 0 rho mv ((getL (memX G s'.bl) G.length mv).map (AB.ren (backNo G.length mem.n rho mv)))⟩
        | false => .bad 84)
      | none => none
    | _, _ => none
  | _, _, _ => none
theorem mergeT_get {n : Nat} : ∀ {rho : List Nat} {mv : List Bool} {bl : List AB} {t : Tr AB} {j i : Nat} {ab : AB}, rho.length = mv.length → bl.length = mv.length → (mergeT n t j rho mv bl).get i = some ab →
    ab = .gone ∧ i ∈ rho ∨ (∃ p : Nat, rho[p]? = some i ∧ mv[p]? = some false ∧ bl[p]? = some ab ∧ ab.wr = true) ∨ (∃ p : Nat, mv[p]? = some true ∧ bl[p]? = some ab ∧ i = n + (j + p) ∧ ab.wr = true) ∨
      (t.get i = some ab ∧ (i ∈ rho → ab.wr = false))
  | [], [], [], t, j, i, ab, _, _, h => .inr (.inr (.inr ⟨h, fun h => by cases h⟩))
  | b :: bs, m :: ms, x :: xs, t, j, i, ab, h1, h2, h => by
    have ih := mergeT_get (rho := bs) (mv := ms) (bl := xs) (j := j + 1) (i := i) (ab := ab) (by simpa using h1) (by simpa using h2) h
    rcases ih with ⟨q1, q2⟩ | ⟨p, q1, q2, q3, q4⟩ | ⟨p, q1, q2, q3, q4⟩ | ⟨q1, q2⟩
    · exact .inl ⟨q1, List.mem_cons_of_mem _ q2⟩
    · exact .inr (.inl ⟨p + 1, by simpa using q1, by simpa using q2, by simpa using q3, q4⟩)
    · exact .inr (.inr (.inl ⟨p + 1, by simpa using q1, by simpa using q2, by omega, q4⟩))
    · cases m with
      | true =>
        dsimp only at q1
        have gone : (t.set b .gone).get i = some ab → ab = .gone ∧ i ∈ b :: bs ∨ (t.get i = some ab ∧ (i ∈ b :: bs → ab.wr = false)) := fun q1 => by
          by_cases hb : i = b
          · subst hb
            exact .inl ⟨Tr.get_set_eq _ _ _ _ q1, List.mem_cons_self ..⟩
          · rw [Tr.get_set_ne _ _ _ _ (Ne.symm hb)] at q1
            refine .inr ⟨q1, fun hm => ?_⟩
            rcases List.mem_cons.1 hm with e | hm
            · exact absurd e hb
            · exact q2 hm
        cases hw : x.wr with
        | true =>
          rw [hw] at q1
          dsimp only at q1
          by_cases hi : i = n + j
          · subst hi
            have := Tr.get_set_eq _ _ _ _ q1
            subst this
            exact .inr (.inr (.inl ⟨0, rfl, rfl, by omega, hw⟩))
          · rw [Tr.get_set_ne _ _ _ _ (Ne.symm hi)] at q1
            rcases gone q1 with h | h
            · exact .inl h
            · exact .inr (.inr (.inr h))
        | false =>
          rw [hw] at q1
          dsimp only at q1
          rcases gone q1 with h | h
          · exact .inl h
          · exact .inr (.inr (.inr h))
      | false =>
        dsimp only at q1
        cases hw : x.wr with
        | true =>
          rw [hw] at q1
          dsimp only at q1
          by_cases hb : i = b
          · subst hb
            have := Tr.get_set_eq _ _ _ _ q1
            subst this
            exact .inr (.inl ⟨0, rfl, rfl, rfl, hw⟩)
          · rw [Tr.get_set_ne _ _ _ _ (Ne.symm hb)] at q1
            refine .inr (.inr (.inr ⟨q1, fun hm => ?_⟩))
            rcases List.mem_cons.1 hm with e | hm
            · exact absurd e hb
            · exact q2 hm
        | false =>
          rw [hw] at q1
          dsimp only at q1
          split at q1
          · rename_i old hold
            split at q1
            · by_cases hb : i = b
              · subst hb
                exact .inl ⟨Tr.get_set_eq _ _ _ _ q1, List.mem_cons_self ..⟩
              · rw [Tr.get_set_ne _ _ _ _ (Ne.symm hb)] at q1
                refine .inr (.inr (.inr ⟨q1, fun hm => ?_⟩))
                rcases List.mem_cons.1 hm with e | hm
                · exact absurd e hb
                · exact q2 hm
            · rename_i ho
              refine .inr (.inr (.inr ⟨q1, fun hm => ?_⟩))
              rcases List.mem_cons.1 hm with e | hm
              · subst e; rw [q1] at hold; cases hold; exact ho
              · exact q2 hm
          · rename_i hold
            refine .inr (.inr (.inr ⟨q1, fun hm => ?_⟩))
            rcases List.mem_cons.1 hm with e | hm
            · subst e; rw [q1] at hold; cases hold
            · exact q2 hm
  | [], [], _ :: _, _, _, _, _, _, h, _ => by cases h
  | [], _ :: _, _, _, _, _, _, h, _, _ => by cases h
  | _ :: _, [], _, _, _, _, _, h, _, _ => by cases h
  | _ :: _, _ :: _, [], _, _, _, _, _, h, _ => by cases h
theorem AB.not_base {env : Nat → Nat} {m : Nat} {w : World} {b : Nat} {ab : AB} (h : ab.R env m B w b) (hw : ab.wr = true) : ¬ B b := by
  cases ab with
  | gone => cases hw
  | cells t l => obtain ⟨_, _, _, q⟩ := h; exact q
  | row t l => obtain ⟨_, _, _, _, q⟩ := h; exact q
  | ro l => cases hw
  | seq t k L g => obtain ⟨_, _, _, _, _, q⟩ := h; exact q
  | rseq k L g => cases hw
  | mp k kv es => obtain ⟨_, _, _, _, _, q⟩ := h; exact q
  | fz t l => obtain ⟨_, _, _, _, q⟩ := h; exact q
  | ob x => obtain ⟨_, _, _, q⟩ := h; exact q
  | num c => cases hw
theorem AB.R_wr {env : Nat → Nat} {m : Nat} {B' : Nat → Prop} {w : World} {b : Nat} {ab : AB} (h : ab.R env m B w b) (hw : ab.wr = true) (hB : ¬ B' b) : ab.R env m B' w b := by
  cases ab with
  | gone => cases hw
  | cells t l => obtain ⟨vs, q1, q2, _⟩ := h; exact ⟨vs, q1, q2, hB⟩
  | row t l => obtain ⟨vs, rest, q1, q2, _⟩ := h; exact ⟨vs, rest, q1, q2, hB⟩
  | ro l => cases hw
  | seq t k L g => obtain ⟨rest, q1, q2, q3, q4, _⟩ := h; exact ⟨rest, q1, q2, q3, q4, hB⟩
  | rseq k L g => cases hw
  | mp k kv es => obtain ⟨ms, c, q1, q2, q3, _⟩ := h; exact ⟨ms, c, q1, q2, q3, hB⟩
  | fz t l => obtain ⟨vs, fr, q1, q2, _⟩ := h; exact ⟨vs, fr, q1, q2, hB⟩
  | ob x => obtain ⟨o, q1, q2, _⟩ := h; exact ⟨o, q1, q2, hB⟩
  | num c => cases hw
theorem AB.R_ro {env : Nat → Nat} {m : Nat} {B' : Nat → Prop} {w : World} {b : Nat} {ab : AB} (h : ab.R env m B w b) (hw : ab.wr = false) (hB : B b → B' b) : ab.R env m B' w b := by
  cases ab with
  | gone => trivial
  | cells t l => cases hw
  | row t l => cases hw
  | ro l => obtain ⟨vs, rest, t, fr, q1, q2, q3⟩ := h; exact ⟨vs, rest, t, fr, q1, q2, hB q3⟩
  | seq t k L g => cases hw
  | rseq k L g =>
    rcases h with h | ⟨front, rest, t, fr, q1, q2, q3⟩
    · exact .inl h
    · exact .inr ⟨front, rest, t, fr, q1, q2, hB q3⟩
  | mp k kv es => cases hw
  | fz t l => cases hw
  | ob x => cases hw
  | num c => exact h
def guard (w : World) (env : Nat → Nat) (mem : Mem) (b : Nat) : Prop := b < w.heap.size ∧ ∀ i ab, mem.get i = some ab → ab.wr = true → env i ≠ b
theorem MR.guard (h : MR C B w0 env mem w) : MR C (guard w env mem) w env mem w ∧ ∀ b, B b → Go.Ax.guard w env mem b := by
  have hB : ∀ b, B b → Go.Ax.guard w env mem b := fun b hb => ⟨h.base b hb, fun i ab hi hw e => AB.not_base (h.blk i ab hi) hw (e ▸ hb)⟩
  refine ⟨⟨Keep.refl _ _, fun b hb => hb.1, h.lt, fun i ab hi => ?_, h.sep, h.gl, fun p hp => ?_⟩, hB⟩
  · cases hw : ab.wr with
    | true => exact AB.R_wr (h.blk i ab hi) hw fun hg => hg.2 i ab hi hw rfl
    | false => exact AB.R_ro (h.blk i ab hi) hw (hB _)
  · obtain ⟨q1, q2⟩ := h.gd p hp
    exact ⟨hB _ q1, q2⟩
theorem getL_len {mem : Mem} : ∀ {ms : List Bool} {i : Nat}, (getL mem i ms).length = ms.length
  | [], _ => rfl
  | _ :: ms, i => by simp [getL, getL_len (ms := ms)]
theorem getL_get {mem : Mem} : ∀ {ms : List Bool} {i p : Nat} {ab : AB}, (getL mem i ms)[p]? = some ab → mem.get (i + p) = some ab ∨ ab = .gone
  | [], _, _, _, h => by cases h
  | m :: ms, i, p, ab, h => by
    cases p with
    | zero =>
      simp only [getL, List.getElem?_cons_zero, Option.some.injEq] at h
      subst h
      cases hq : mem.get i with
      | none => exact .inr rfl
      | some ab => exact .inl rfl
    | succ p =>
      simp only [getL, List.getElem?_cons_succ] at h
      rw [show i + (p + 1) = i + 1 + p by omega]
      exact getL_get h
theorem lq_rule {C : Cfg} (hC : COk C) (hgl : C.gl = glFrom 0 C.gd) {bd : Code} {n sz : Nat} {sqs ts : List Nat} {re ri : List Root} {mv : List Bool} {ι : Type} {pi : LS → Option ι} {St : ι → LS} {Inv : ι → Prop} {mu : ι → Nat} {Ex : ι → AE → LS → Prop} {ok : ι → Prop} {out : ι → (AE → LS → Out) → Out}
    (hpi : ∀ s i, pi s = some i → s.fits (St i)) (hok : ∀ i, ok i → Inv i)
    (hout : ∀ (K : AV → Mem → Prop) k i, ok i → (out i k).sat K → ∀ e s, Ex i e s → (k e s).sat K)
    (step : ∀ i, Inv i → (exec C n (.run bd) (slots sz (St i).sl) (memX C.gd (St i).bl) (endX C.gd.length sz ts ri mv (RoundOk St Inv mu Ex i))).sat (fun _ _ => True)) :
    LoopQ C bd (lqF C.gd sz sqs ts re mv pi ok out) := by
  intro K k tm0 mem0 o hF hs B w0 env0 a w Q hr0 hk0
  obtain ⟨env, hr, hx0⟩ := seqifyAll_sound (ts := sqs) hr0
  unfold lqF at hF
  generalize seqifyAll sqs tm0 mem0 = tmm at hF hr hx0
  obtain ⟨tm, mem⟩ := tmm
  dsimp only at hr hx0
  have hk := fun e tm' mem' env' a' w' (q1 : (k e tm' mem').sat K) (q2 : Rel C B w0 env' tm' mem' a' w') (q3 : Ext env mem.n env' mem'.n) => hk0 e tm' mem' env' a' w' q1 q2 (hx0.trans q3)
  dsimp only at hF
  split at hF
  case h_2 => cases hF
  rename_i rho hsz hrho hdf
  split at hF
  case h_2 => cases hF
  rename_i s hlook hlen
  split at hF
  case h_2 => cases hF
  rename_i i hi
  obtain rfl := Option.some.inj hF
  obtain ⟨hoki, hs⟩ := hs
  have hfit := hpi s i hi
  have hlen := Nat.eq_of_beq_eq_true hlen
  obtain ⟨l1, l2, l3, l4, l5⟩ := Rel.look hgl hr hlook
  obtain ⟨g1, g2⟩ := l2.guard
  have hrel : Rel C (guard w (envL C.gd.length rho env) (memX C.gd s.bl)) w (envL C.gd.length rho env) (slots sz (St i).sl) (memX C.gd (St i).bl) a w := by
    rw [← hfit.2]
    exact rel_fits l1 (hr.size.trans (Nat.eq_of_beq_eq_true hsz)) hdf (dfs_nil hr.defers hdf hdf) g1 hfit.1
  have hat : ∀ j b, rho[j]? = some b → envL C.gd.length rho env (C.gd.length + j) = env b := fun j b hj => by
    unfold envL
    rw [show Nat.blt (C.gd.length + j) C.gd.length = false from by cases hq : Nat.blt (C.gd.length + j) C.gd.length with
      | false => rfl
      | true => have : C.gd.length + j < C.gd.length := Nat.le_of_ble_eq_true hq; omega]
    simp [List.getD_eq_getElem?_getD, hj]
  refine rounds hC hgl step (ae := fun j => env (rho.getD j 0)) (mu i) i rfl (hok i hoki) _ a w hrel (by rw [← hfit.2, l3, hlen]) (fun j hj => ?_) ?_
  · have hlt := (List.getElem?_eq_some_iff.1 hj).1
    have : rho[j]? = some (rho.getD j 0) := by simp [List.getD_eq_getElem?_getD, List.getElem?_eq_getElem (show j < rho.length by omega)]
    exact hat j _ this
  intro e s' env3 a' w' hex hbl hR hsl hkeep
  have hs := hout K _ i hoki hs e s' hex
  rw [hbl, Nat.beq_refl] at hs
  dsimp only at hs
  have hm := hR.mem
  have n3 : (memX C.gd s'.bl).n = C.gd.length + mv.length := by simp [memX, hbl]
  let env4 : Nat → Nat := fun b => if b < mem.n then env b else env3 (C.gd.length + (b - mem.n))
  have e1 : ∀ b, b < mem.n → env4 b = env b := fun b hb => if_pos hb
  have e2 : ∀ j, env4 (mem.n + j) = env3 (C.gd.length + j) := fun j => by
    show (if mem.n + j < mem.n then _ else _) = _
    rw [if_neg (by omega), show mem.n + j - mem.n = j by omega]
  have hgn : C.gd.length ≤ mem.n := by
    rcases Nat.eq_zero_or_pos C.gd.length with h0 | h0
    · omega
    · have := (glob_env hgl hr.mem (List.getElem?_eq_getElem (show C.gd.length - 1 < C.gd.length by omega))).2
      omega
  have hkept : ∀ j b, rho[j]? = some b → mv[j]? = some false → env3 (C.gd.length + j) = env b ∧ b < mem.n := fun j b hb hj => by
    refine ⟨?_, (l5 b (List.mem_of_getElem? hb)).2⟩
    rw [hkeep j hj]
    simp [List.getD_eq_getElem?_getD, hb]
  have hren : RenOk (backNo C.gd.length mem.n rho mv) env3 env4 (mem.n + mv.length) := fun c c' h => by
    unfold backNo at h
    split at h
    · rename_i hc
      cases h
      have hc : c < C.gd.length := Nat.le_of_ble_eq_true hc
      refine ⟨by omega, ?_⟩
      have hp := List.getElem?_eq_getElem hc
      rw [e1 c (by omega), (glob_env hgl hr.mem hp).1, (glob_env hgl hm hp).1]
    · rename_i hc
      have hc := blt_false hc
      split at h
      · rename_i b hb hmv
        cases h
        obtain ⟨q1, q2⟩ := hkept _ _ hb hmv
        refine ⟨by omega, ?_⟩
        rw [e1 _ q2, ← q1, show C.gd.length + (c - C.gd.length) = c by omega]
      · rename_i b hb hmv
        cases h
        have := (List.getElem?_eq_some_iff.1 hmv).1
        refine ⟨by omega, ?_⟩
        rw [e2, show C.gd.length + (c - C.gd.length) = c by omega]
      · cases h
  have hx4 : Ext env mem.n env4 (mem.n + mv.length) := ⟨Nat.le_add_right _ _, e1⟩
  have hK : Keep B w0 w' := hr.mem.below.trans ⟨hm.below.grown, fun b hb => hm.below.block b (g2 b hb)⟩
  -- the part's writable blocks
  have hpart : ∀ p i ab, ((getL (memX C.gd s'.bl) C.gd.length mv).map (AB.ren (backNo C.gd.length mem.n rho mv)))[p]? = some ab → ab.wr = true → env4 i = env3 (C.gd.length + p) →
      (∃ ab0, (memX C.gd s'.bl).get (C.gd.length + p) = some ab0 ∧ ab0.wr = true) ∧ ab.R env4 (mem.n + mv.length) B w' (env4 i) := fun p i ab h hw hi => by
    rw [List.getElem?_map] at h
    obtain ⟨ab0, h0, rfl⟩ := Option.map_eq_some_iff.1 h
    rcases getL_get h0 with h0 | rfl
    · have hb := AB.ren_R hren (hm.blk _ _ h0)
      refine ⟨⟨ab0, h0, AB.ren_wr hw⟩, ?_⟩
      rw [hi]
      exact AB.R_wr hb hw fun hB => AB.not_base hb hw (g2 _ hB)
    · cases hw
  have hguard : ∀ i ab, mem.get i = some ab → (i ∈ rho → ab.wr = false) → ab.wr = true → guard w (envL C.gd.length rho env) (memX C.gd s.bl) (env i) := fun i ab hi hnr hw => by
    refine ⟨(AB.heap_lt (hr.mem.blk i ab hi) hw).1, fun c abc hc hwc he => ?_⟩
    rcases memX_get hc with ⟨_, q, _, rfl⟩ | ⟨j, rfl, hj⟩
    · cases hwc
    · obtain ⟨b, hb, ab1, h1, h2⟩ : ∃ b, rho[j]? = some b ∧ ∃ ab1, mem.get b = some ab1 ∧ ab1.wr = true := by
        unfold lookL at hlook
        split at hlook
        · cases hlook
          rw [List.getElem?_map] at hj
          obtain ⟨b, hb, he⟩ := Option.map_eq_some_iff.1 hj
          refine ⟨b, hb, ?_⟩
          cases hq : mem.get b with
          | none => rw [hq] at he; subst he; cases hwc
          | some ab1 => rw [hq] at he; subst he; exact ⟨ab1, rfl, AB.ren_wr hwc⟩
        · cases hlook
      rw [hat j b hb] at he
      have hne : b ≠ i := fun e => by
        have := hnr (e ▸ List.mem_of_getElem? hb)
        rw [this] at hw; cases hw
      exact hr.mem.sep b i ab1 ab h1 hi hne h2 hw he
  have alen : ((getL (memX C.gd s'.bl) C.gd.length mv).map (AB.ren (backNo C.gd.length mem.n rho mv))).length = mv.length := by simp [getL_len]
  have kinds : ∀ i ab, (mergeT mem.n mem.t 0 rho mv ((getL (memX C.gd s'.bl) C.gd.length mv).map (AB.ren (backNo C.gd.length mem.n rho mv)))).get i = some ab →
      (ab = .gone ∧ i < mem.n) ∨ (∃ p ab0, i < mem.n + mv.length ∧ ab.wr = true ∧ env4 i = env3 (C.gd.length + p) ∧ (memX C.gd s'.bl).get (C.gd.length + p) = some ab0 ∧ ab0.wr = true ∧ ab.R env4 (mem.n + mv.length) B w' (env4 i) ∧ ((rho[p]? = some i ∧ mv[p]? = some false) ∨ (i = mem.n + p ∧ mv[p]? = some true))) ∨
      (mem.get i = some ab ∧ (i ∈ rho → ab.wr = false)) := fun i ab hi => by
    rcases mergeT_get hlen alen hi with ⟨q1, q2⟩ | ⟨p, q1, q2, q3, q4⟩ | ⟨p, q1, q2, q3, q4⟩ | q
    · exact .inl ⟨q1, (l5 i q2).2⟩
    · obtain ⟨h1, h2⟩ := hkept p i q1 q2
      have he : env4 i = env3 (C.gd.length + p) := (e1 i h2).trans h1.symm
      obtain ⟨⟨ab0, p1, p2⟩, p3⟩ := hpart p i ab q3 q4 he
      exact .inr (.inl ⟨p, ab0, by omega, q4, he, p1, p2, p3, .inl ⟨q1, q2⟩⟩)
    · have hi : i = mem.n + p := by omega
      have he : env4 i = env3 (C.gd.length + p) := by rw [hi]; exact e2 p
      obtain ⟨⟨ab0, p1, p2⟩, p3⟩ := hpart p i ab q2 q4 he
      have := (List.getElem?_eq_some_iff.1 q1).1
      exact .inr (.inl ⟨p, ab0, by omega, q4, he, p1, p2, p3, .inr ⟨hi, q1⟩⟩)
    · exact .inr (.inr q)
  refine hk e _ _ env4 a' w' hs ⟨hR.size.trans (slots_sz.trans slots_sz.symm), fun t => slots_R fun p hp ht => ?_, by rw [slots_df]; exact dfs_nil hR.defers slots_df rfl, ⟨hK, fun b hb => Nat.lt_of_lt_of_le (hr.mem.base b hb) hm.below.grown.size, fun i ab hi => ?_, fun i ab hi => ?_, fun i j x y hi hj hij hx hy => ?_, fun p hp => ?_, hr.mem.gd.below ⟨hm.below.grown, fun b hb => hm.below.block b (g2 b hb)⟩⟩⟩ hx4
  · obtain ⟨q, hq, rfl⟩ := List.mem_map.1 hp
    dsimp only at ht
    subst ht
    have := AV.ren_R hren (hsl q hq)
    exact this
  · rcases kinds i ab hi with ⟨_, h⟩ | ⟨_, _, h, _⟩ | ⟨h, _⟩
    · show i < mem.n + mv.length; omega
    · exact h
    · have := hr.mem.lt i ab h
      show i < mem.n + mv.length; omega
  · rcases kinds i ab hi with ⟨rfl, _⟩ | ⟨_, _, _, _, _, _, _, h, _⟩ | ⟨h1, h2⟩
    · trivial
    · exact h
    · rw [e1 i (hr.mem.lt i ab h1)]
      have hb := AB.R_ext hx4 (hr.mem.blk i ab h1)
      refine AB.R_same hb (fun hw => ?_) (fun hB => hm.below.block _ (g2 _ hB))
      exact hm.below.block _ (hguard i ab h1 h2 hw)
  · rcases kinds i x hi with ⟨rfl, _⟩ | ⟨p, _, _, _, he, h1, h2, _, h3⟩ | ⟨h1, h2⟩
    · cases hx
    · rcases kinds j y hj with ⟨rfl, _⟩ | ⟨q, _, _, _, he', h1', h2', _, h3'⟩ | ⟨h1', h2'⟩
      · cases hy
      · rw [he, he']
        refine hm.sep _ _ _ _ h1 h1' (fun e => hij ?_) h2 h2'
        have e : p = q := by omega
        subst e
        rcases h3 with ⟨r1, r2⟩ | ⟨r1, r2⟩ <;> rcases h3' with ⟨r1', r2'⟩ | ⟨r1', r2'⟩
        · rw [r1] at r1'; exact Option.some.inj r1'
        · rw [r2] at r2'; cases r2'
        · rw [r2] at r2'; cases r2'
        · omega
      · rw [he, e1 j (hr.mem.lt j y h1')]
        exact fun e => AB.not_base (hm.blk _ _ h1) h2 (e ▸ hguard j y h1' h2' hy)
    · rcases kinds j y hj with ⟨rfl, _⟩ | ⟨q, _, _, _, he', h1', h2', _, h3'⟩ | ⟨h1', h2'⟩
      · cases hy
      · rw [he', e1 i (hr.mem.lt i x h1)]
        exact fun e => AB.not_base (hm.blk _ _ h1') h2' (e ▸ hguard i x h1 h2 hx)
      · rw [e1 i (hr.mem.lt i x h1), e1 j (hr.mem.lt j y h1')]
        exact hr.mem.sep i j x y h1 h1' hij hx hy
  · obtain ⟨q1, q2⟩ := hr.mem.gl p hp
    exact ⟨(e1 _ q2).trans q1, by show p.2 < mem.n + mv.length; omega⟩
end
end Go.Ax

namespace Go.Ax
open Go Go.RowKit
section
variable {H : Type} {enc : TypeId × Value → H} {P : Program} {w : World} {spare : Nat → Bool} {held : Bool}
theorem wf_ok {k : IntKind} {n : Int} (h : (Lit.int k n).wf = true) : okI k n := by
  simp only [Lit.wf, Bool.and_eq_true] at h
  exact ⟨of_decide_eq_true h.1, of_decide_eq_true h.2⟩
theorem lies_of_trod {t e : TypeId} {k : IntKind} {fuel : Nat} {v : Value} {x : DataW H × List MemPlace} (ht : P.underlying t = some (.slice e)) (he : P.underlying e = some (.int k)) (hc : P.cellsOf e = 1)
    (h : DataW.trod enc P w 0 spare held fuel t [v] = some x) : ∃ M, Lies w v k M := by
  rcases Go.ChangeShapes.open_ints ht he hc h with ⟨hv, _⟩ | ⟨a, len, cap, zs, hv, _, hle, hcap, hlen, _, hcell, hwf⟩
  · cases hv
    exact ⟨[], none, 0, rfl, Nat.le_refl _, by omega, by simp, 0, 0, .inl rfl⟩
  · cases hv
    have hz : len ≤ zs.length := by rw [hlen]; split <;> omega
    have hl : (zs.take len).length = len := by simp; omega
    refine ⟨zs.take len, some a, cap, by rw [hl], by omega, by unfold maxLen at hcap; omega, fun n hn => wf_ok (hwf n (List.mem_of_mem_take hn)), a.block, a.off, ?_⟩
    by_cases h0 : len = 0
    · subst h0; exact .inl (by simp)
    · have h1 := hcell 0 (by omega)
      have e0 : a.add 0 = a := rfl
      rw [e0] at h1
      unfold World.cell? at h1
      split at h1
      · rename_i c t' fr hh
        split at h1
        · cases h1
        · rename_i hs
          have hs : a.spot = none := by simpa using hs
          obtain ⟨b, off, sp⟩ := a
          dsimp only at hs hh h1 ⊢
          subst hs
          have hat : ∀ i, i < len → c[off + i]? = some (.int k (zs.getD i 0)) := fun i hi => by
            have := hcell i (by omega)
            unfold World.cell? at this
            have eb : (Addr.add ⟨b, off, none⟩ i).block = b := by unfold Addr.add; split <;> rfl
            have eo : (Addr.add ⟨b, off, none⟩ i).off = off + i := by unfold Addr.add; split <;> simp_all
            have es : (Addr.add ⟨b, off, none⟩ i).spot = none := by unfold Addr.add; split <;> rfl
            rw [eb, hh] at this
            simpa [es, eo] using this
          have hsz : off + len ≤ c.toList.length := by
            have := hat (len - 1) (by omega)
            obtain ⟨q, _⟩ := Array.getElem?_eq_some_iff.1 this
            rw [Array.length_toList]; omega
          refine .inr ⟨rfl, c.toList.take off, c.toList.drop (off + len), t', fr, by rw [List.length_take]; omega, ?_⟩
          rw [hh]
          have key : (c.toList.drop off).take len = (zs.take len).map (Value.int k) := by
            refine List.ext_getElem (by simp at hsz ⊢; omega) fun i h1 h2 => ?_
            have hi : i < len := by simp at h1; omega
            have := hat i hi
            rw [← Array.getElem?_toList, List.getElem?_eq_some_iff] at this
            obtain ⟨q1, q2⟩ := this
            simp only [List.getElem_take, List.getElem_drop, List.getElem_map]
            rw [q2]
            have : i < zs.length := by omega
            simp [this]
          have e : c.toList = c.toList.take off ++ ((zs.take len).map (Value.int k) ++ c.toList.drop (off + len)) := by
            rw [← key, ← List.drop_drop, List.take_append_drop, List.take_append_drop]
          rw [← e]
      · cases h1
def entOf (P : Program) (t : TypeId) : Option SE := match P.underlying t with
  | some (.int k) => some (.w k)
  | some .bool => some .b
  | some (.slice e) => match P.underlying e with
    | some (.int k) => match Nat.beq (P.cellsOf e) 1 with | true => some (.s k) | false => none
    | _ => none
  | _ => none
theorem ent_lies {t : TypeId} {se : SE} {fuel : Nat} {v : Value} {x : DataW H × List MemPlace} (hs : entOf P t = some se) (h : DataW.trod enc P w 0 spare held fuel t [v] = some x) : ∃ es, ArgLies w se es v := by
  unfold entOf at hs
  split at hs
  · rename_i k hu
    cases hs
    cases fuel with
    | zero => cases h
    | succ n =>
      unfold DataW.trod at h
      rw [hu] at h
      cases v with
      | int k' n' =>
        simp only at h
        split at h
        · rename_i hq
          obtain ⟨rfl, hq⟩ := hq
          exact ⟨[n'], n', rfl, rfl, wf_ok hq⟩
        · cases h
      | _ => simp at h
  · rename_i hu
    cases hs
    cases fuel with
    | zero => cases h
    | succ n =>
      unfold DataW.trod at h
      rw [hu] at h
      cases v with
      | bool c => exact ⟨[iteI c 1 0], c, rfl, rfl⟩
      | _ => simp at h
  · rename_i e hu
    split at hs
    · rename_i k he
      split at hs
      · rename_i hc
        cases hs
        exact lies_of_trod hu he (Nat.eq_of_beq_eq_true hc) h
      · cases hs
    · cases hs
  · cases hs
def fieldsOf (P : Program) : Nat → List Field → Option (List SE)
  | _, [] => some []
  | i, f :: fs => match Nat.beq f.offset i && Nat.beq (P.cellsOf f.type) 1, entOf P f.type, fieldsOf P (i + 1) fs with
    | true, some e, some es => some (e :: es)
    | _, _, _ => none
def flatP (P : Program) (g : TypeId → Option (List SE)) : List (Nat × TypeId) → Nat → Option (List SE)
  | [], _ => some []
  | (o, t) :: pl, i => match Nat.beq o i, g t with
    | true, some es => match Nat.beq es.length (P.cellsOf t), flatP P g pl (i + P.cellsOf t) with
      | true, some r => some (es ++ r)
      | _, _ => none
    | _, _ => none
def flatE (P : Program) : Nat → TypeId → Option (List SE)
  | 0, _ => none
  | f + 1, t => match P.underlying t with
    | some (.struct fs) => match flatP P (flatE P f) (fs.toList.map fun x => (x.offset, x.type)) 0 with
      | some es => match Nat.beq es.length (P.cellsOf t) with | true => some es | false => none
      | none => none
    | some (.array n e) => match flatP P (flatE P f) ((List.range n).map fun i => (i * P.cellsOf e, e)) 0 with
      | some es => match Nat.beq es.length (P.cellsOf t) with | true => some es | false => none
      | none => none
    | _ => match entOf P t with | some e => some [e] | none => none
def shEOf (P : Program) (t : TypeId) : Option SH := match P.underlying t with
  | some (.struct fs) => match rowSh P t with
    | some (.l k n) => some (.one (.l k n))
    | _ => match fieldsOf P 0 fs.toList, Nat.beq fs.toList.length (P.cellsOf t) with
      | some es, true => some (.grp es)
      | _, _ => match flatE P 9 t with | some es => some (.grp es) | none => none
  | some (.array _ _) => match rowSh P t with
    | some (.l k n) => some (.one (.l k n))
    | _ => none
  | _ => match entOf P t with | some e => some (.one e) | none => none
def shsE (P : Program) : List TypeId → Option (List SH)
  | [] => some []
  | t :: ts => match shEOf P t, shsE P ts with | some s, some l => some (s :: l) | _, _ => none
theorem fields_lies {cs : List Value} {fuel : Nat} : ∀ {fs : List Field} {i : Nat} {es : List SE} {xs : List (DataW H × List MemPlace)}, fieldsOf P i fs = some es → i + fs.length = cs.length →
    (fs.mapM fun f => DataW.trod enc P w 0 spare held fuel f.type ((cs.drop f.offset).take (P.cellsOf f.type))) = some xs → es.length = fs.length ∧ ∃ ess : List (List Int), ess.length = es.length ∧ ∀ (j : Nat) (e : SE), es[j]? = some e → ∃ v, cs[i + j]? = some v ∧ ArgLies w e (ess.getD j []) v
  | [], i, es, xs, h, _, _ => by cases h; exact ⟨rfl, [], rfl, fun j e hj => by cases hj⟩
  | f :: fs, i, es, xs, h, hl, hx => by
    simp only [fieldsOf] at h
    split at h
    · rename_i e es' hb he hes
      cases h
      simp only [Bool.and_eq_true] at hb
      have ho := Nat.eq_of_beq_eq_true hb.1
      have hc := Nat.eq_of_beq_eq_true hb.2
      rw [List.mapM_cons] at hx
      simp only [List.length_cons] at hl
      have hi : i < cs.length := by omega
      have hcell : (cs.drop f.offset).take (P.cellsOf f.type) = [cs[i]] := by
        rw [ho, hc, List.drop_eq_getElem_cons hi, List.take_succ_cons, List.take_zero]
      rw [hcell] at hx
      cases h1 : DataW.trod enc P w 0 spare held fuel f.type [cs[i]] with
      | none => rw [h1] at hx; simp at hx
      | some y =>
        rw [h1] at hx
        cases h2 : (fs.mapM fun f => DataW.trod enc P w 0 spare held fuel f.type ((cs.drop f.offset).take (P.cellsOf f.type))) with
        | none => rw [h2] at hx; simp at hx
        | some ys =>
          obtain ⟨es0, q1⟩ := ent_lies he h1
          obtain ⟨q2, ess, q3, q4⟩ := fields_lies hes (by omega) h2
          refine ⟨by simp [q2], es0 :: ess, by simp [q3], fun j e' hj => ?_⟩
          cases j with
          | zero => simp at hj; subst hj; exact ⟨cs[i], by simp [hi], q1⟩
          | succ j =>
            obtain ⟨v, r1, r2⟩ := q4 j e' (by simpa using hj)
            exact ⟨v, by rw [show i + (j + 1) = i + 1 + j by omega]; exact r1, r2⟩
    · cases h
def LiesL (w : World) (es : List SE) (cs : List Value) : Prop := es.length = cs.length ∧ ∃ ess : List (List Int), ess.length = es.length ∧ ∀ (j : Nat) (e : SE), es[j]? = some e → ∃ v, cs[j]? = some v ∧ ArgLies w e (ess.getD j []) v
theorem LiesL.append {es es' : List SE} {cs cs' : List Value} (h : LiesL w es cs) (h' : LiesL w es' cs') : LiesL w (es ++ es') (cs ++ cs') := by
  obtain ⟨h1, ess, h2, h3⟩ := h
  obtain ⟨k1, ess', k2, k3⟩ := h'
  refine ⟨by simp [h1, k1], ess ++ ess', by simp [h2, k2], fun j e hj => ?_⟩
  by_cases hlt : j < es.length
  · rw [List.getElem?_append_left hlt] at hj
    obtain ⟨v, q1, q2⟩ := h3 j e hj
    refine ⟨v, by rw [List.getElem?_append_left (by omega)]; exact q1, ?_⟩
    rw [List.getD_eq_getElem?_getD, List.getElem?_append_left (by omega), ← List.getD_eq_getElem?_getD]
    exact q2
  · rw [List.getElem?_append_right (by omega)] at hj
    obtain ⟨v, q1, q2⟩ := k3 _ e hj
    refine ⟨v, by rw [List.getElem?_append_right (by omega), ← h1]; exact q1, ?_⟩
    rw [List.getD_eq_getElem?_getD, List.getElem?_append_right (by omega), ← List.getD_eq_getElem?_getD, h2]
    exact q2
theorem flatP_lies {α : Type} {g : TypeId → Option (List SE)} {rd : α → Option (DataW H × List MemPlace)} {pos : α → Nat × TypeId} {cs : List Value}
    (hrd : ∀ a x es, rd a = some x → g (pos a).2 = some es → LiesL w es ((cs.drop (pos a).1).take (P.cellsOf (pos a).2))) : ∀ {l : List α} {xs : List (DataW H × List MemPlace)} {i : Nat} {es : List SE}, l.mapM rd = some xs → flatP P g (l.map pos) i = some es → LiesL w es ((cs.drop i).take es.length)
  | [], xs, i, es, hm, h => by
    cases h
    exact ⟨by simp, [], rfl, fun j e hj => by cases hj⟩
  | a :: l, xs, i, es, hm, h => by
    rw [List.mapM_cons] at hm
    obtain ⟨x, hx, hm⟩ := Option.bind_eq_some_iff.1 hm
    obtain ⟨ys, hy, hm⟩ := Option.bind_eq_some_iff.1 hm
    cases hm
    simp only [List.map_cons, flatP] at h
    split at h
    · rename_i us ho hg
      split at h
      · rename_i r hl hr
        cases h
        have ho := Nat.eq_of_beq_eq_true ho
        have hl := Nat.eq_of_beq_eq_true hl
        have h1 := hrd a x us hx hg
        have h2 := flatP_lies hrd hy hr
        rw [ho, ← hl] at h1
        rw [← hl] at h2
        rw [List.length_append, List.take_add, List.drop_drop]
        exact h1.append h2
      · cases h
    · cases h
theorem flat_lies : ∀ (f fuel : Nat) (t : TypeId) (cs : List Value) (x : DataW H × List MemPlace) (es : List SE), DataW.trod enc P w 0 spare held fuel t cs = some x → flatE P f t = some es → LiesL w es cs
  | 0, _, _, _, _, _, _, h => by cases h
  | _, 0, _, _, _, _, h, _ => by simp [DataW.trod] at h
  | f + 1, fuel + 1, t, cs, x, es, h, hl => by
    unfold flatE at hl
    split at hl
    · rename_i fs ht
      split at hl
      · rename_i us hp
        split at hl
        · rename_i hle
          cases hl
          have hle := Nat.eq_of_beq_eq_true hle
          simp only [DataW.trod, ht] at h
          split at h
          · rename_i hlen
            obtain ⟨xs, hm, hx⟩ := Option.map_eq_some_iff.1 h
            have := flatP_lies (P := P) (pos := fun x : Field => (x.offset, x.type)) (cs := cs) (fun a x es h1 h2 => flat_lies f fuel _ _ x es h1 h2) hm hp
            rw [List.drop_zero, List.take_of_length_le (by omega)] at this
            exact this
          · cases h
        · cases hl
      · cases hl
    · rename_i n e ht
      split at hl
      · rename_i us hp
        split at hl
        · rename_i hle
          cases hl
          have hle := Nat.eq_of_beq_eq_true hle
          simp only [DataW.trod, ht] at h
          split at h
          · rename_i hlen
            obtain ⟨xs, hm, hx⟩ := Option.map_eq_some_iff.1 h
            have := flatP_lies (P := P) (pos := fun i : Nat => (i * P.cellsOf e, e)) (cs := cs) (fun a x es h1 h2 => flat_lies f fuel _ _ x es h1 h2) hm hp
            rw [List.drop_zero, List.take_of_length_le (by omega)] at this
            exact this
          · cases h
        · cases hl
      · cases hl
    · split at hl
      · rename_i e he
        cases hl
        obtain ⟨v, rfl⟩ : ∃ v, cs = [v] := by
          have he' := he
          unfold entOf at he'
          split at he'
          · rename_i k hu
            unfold DataW.trod at h
            rw [hu] at h
            match cs, h with
            | [v], _ => exact ⟨v, rfl⟩
            | [], h => simp at h
            | _ :: _ :: _, h => simp at h
          · rename_i hu
            unfold DataW.trod at h
            rw [hu] at h
            match cs, h with
            | [v], _ => exact ⟨v, rfl⟩
            | [], h => simp at h
            | _ :: _ :: _, h => simp at h
          · rename_i e' hu
            unfold DataW.trod at h
            rw [hu] at h
            match cs, h with
            | [v], _ => exact ⟨v, rfl⟩
            | [], h => simp at h
            | _ :: _ :: _, h => simp at h
          · cases he'
        obtain ⟨es0, q⟩ := ent_lies he h
        exact ⟨rfl, [es0], rfl, fun j e' hj => by
          cases j with
          | zero => simp at hj; subst hj; exact ⟨v, rfl, q⟩
          | succ j => cases hj⟩
      · cases hl
theorem row_lies {r : Reach} {base : Nat} {t : TypeId} {k : IntKind} {n : Nat} {v : Value} (hu : (∃ fs, P.underlying t = some (.struct fs)) ∨ ∃ m e, P.underlying t = some (.array m e)) (hs : rowSh P t = some (.l k n)) (hv : Value.okWide P w r base t v) : ∃ es, ArgLies w (.l k n) es v := by
  have h : shOf P t = some (.l k n) := by
    unfold shOf
    rcases hu with ⟨fs, hu⟩ | ⟨m, e, hu⟩ <;> rw [hu] <;> exact hs
  obtain ⟨es, h1, h2⟩ := shOf_R h hv
  obtain ⟨vs, rfl, h3⟩ := h2
  refine ⟨es, h1.1, ?_, h1.2⟩
  have : vs = es.map (Value.int k) := by
    clear h1 h hs hv
    induction es generalizing vs with
    | nil => cases vs with | nil => rfl | cons _ _ => exact h3.elim
    | cons e es ih =>
      cases vs with
      | nil => exact h3.elim
      | cons v vs =>
        obtain ⟨⟨_, hv⟩, h3⟩ := h3
        rw [List.map_cons, ← ih vs h3, hv]
        rfl
  rw [this]
theorem shE_lies {r : Reach} {base : Nat} {t : TypeId} {sh : SH} {v : Value} {d : DataW H} {ps : List MemPlace} (hs : shEOf P t = some sh) (hv : Value.okWide P w r base t v) (ht : DataW.Trod enc P w 0 spare held t v d ps) :
    ∃ (flat : List Value) (ess : List (List Int)), flat.length = sh.ents.length ∧ (match sh with | .one _ => flat = [v] | .grp _ => v = .agg flat.toArray) ∧ ess.length = sh.ents.length ∧ ∀ (j : Nat) (e : SE), sh.ents[j]? = some e → ∃ x, flat[j]? = some x ∧ ArgLies w e (ess.getD j []) x := by
  have single : ∀ {e : SE}, (∃ es, ArgLies w e es v) → ∃ (flat : List Value) (ess : List (List Int)), flat.length = (SH.one e).ents.length ∧ flat = [v] ∧ ess.length = (SH.one e).ents.length ∧ ∀ (j : Nat) (e' : SE), (SH.one e).ents[j]? = some e' → ∃ x, flat[j]? = some x ∧ ArgLies w e' (ess.getD j []) x := fun {e} ⟨es, h⟩ =>
    ⟨[v], [es], rfl, rfl, rfl, fun j e' hj => by
      cases j with
      | zero => simp [SH.ents] at hj; subst hj; exact ⟨v, rfl, h⟩
      | succ j => cases hj⟩
  unfold shEOf at hs
  split at hs
  · rename_i fs hu
    split at hs
    · rename_i k n hr
      cases hs
      exact single (row_lies (.inl ⟨fs, hu⟩) hr hv)
    · split at hs
      · rename_i es hes hcl
        cases hs
        have hcl := Nat.eq_of_beq_eq_true hcl
        unfold Value.okWide at hv
        rw [hu] at hv
        obtain ⟨cs, rfl, hsz, _⟩ := hv
        obtain ⟨fuel, ht⟩ := ht
        cases fuel with
        | zero => cases ht
        | succ m =>
          have e : (Value.agg cs).cells.toList = cs.toList := rfl
          rw [e] at ht
          unfold DataW.trod at ht
          rw [hu] at ht
          have ht : (if cs.toList.length = P.cellsOf t then (fs.toList.mapM fun f => DataW.trod enc P w 0 spare held m f.type ((cs.toList.drop f.offset).take (P.cellsOf f.type))).map fun xs => ((.agg (xs.map (·.1)) : DataW H), xs.flatMap (·.2)) else none) = some (d, ps) := by
            cases hq : cs.toList with
            | nil => rw [hq] at ht; exact ht
            | cons a l =>
              rw [hq] at ht
              cases l <;> cases a <;> exact ht
          split at ht
          · rename_i hlen
            obtain ⟨xs, hxs, _⟩ := Option.map_eq_some_iff.1 ht
            obtain ⟨q1, ess, q2, q3⟩ := fields_lies (i := 0) hes (by rw [hlen]; omega) hxs
            refine ⟨cs.toList, ess, ?_, by simp, q2, fun j e hj => ?_⟩
            · show cs.toList.length = es.length
              rw [hlen, q1]; exact hcl.symm
            · obtain ⟨v, r1, r2⟩ := q3 j e hj
              exact ⟨v, by rw [Nat.zero_add] at r1; exact r1, r2⟩
          · cases ht
      · split at hs
        · rename_i es hes
          cases hs
          unfold Value.okWide at hv
          rw [hu] at hv
          obtain ⟨cs, rfl, hsz, _⟩ := hv
          obtain ⟨fuel, ht⟩ := ht
          have e : (Value.agg cs).cells.toList = cs.toList := rfl
          rw [e] at ht
          obtain ⟨q1, ess, q2, q3⟩ := flat_lies 9 fuel t _ _ es ht hes
          exact ⟨cs.toList, ess, q1.symm, by simp, q2, q3⟩
        · cases hs
  · rename_i m e hu
    split at hs
    · rename_i k n hr
      cases hs
      exact single (row_lies (.inr ⟨m, e, hu⟩) hr hv)
    · cases hs
  · split at hs
    · rename_i e he
      cases hs
      obtain ⟨fuel, ht⟩ := ht
      have hna : ∀ cs, v ≠ .agg cs := fun cs e => by
        subst e
        unfold Value.okWide at hv
        unfold entOf at he
        split at he
        · rename_i k hu; rw [hu] at hv; unfold Cell.okWide at hv; rw [hu] at hv; simp [Cell.ok, hu] at hv
        · rename_i hu; rw [hu] at hv; unfold Cell.okWide at hv; rw [hu] at hv; simp [Cell.ok, hu] at hv
        · rename_i e' hu; rw [hu] at hv; unfold Cell.okWide at hv; rw [hu] at hv; simp [Cell.ok, hu] at hv
        · cases he
      have hcv : v.cells.toList = [v] := by
        cases v with
        | agg cs => exact absurd rfl (hna cs)
        | _ => rfl
      rw [hcv] at ht
      exact single (ent_lies he ht)
    · cases hs
theorem shsE_lies {r : Reach} {base : Nat} : ∀ {ts : List TypeId} {shs : List SH} {vs : List Value} {ds : List (DataW H)} {ps : List MemPlace}, shsE P ts = some shs → DataW.TrodAll enc P w 0 spare held ts vs ds ps →
    (∀ (j : Nat) (t : TypeId) (v : Value), ts[j]? = some t → vs[j]? = some v → Value.okWide P w r base t v) →
    ∃ (flv : List Value) (ess : List (List Int)), OpnV shs vs flv ∧ ess.length = (entsQ shs).length ∧ flv.length = (entsQ shs).length ∧ ∀ (i : Nat) (sh : SE), (entsQ shs)[i]? = some sh → ∃ v, flv[i]? = some v ∧ ArgLies w sh (ess.getD i []) v
  | [], shs, [], ds, ps, h, _, _ => by cases h; exact ⟨[], [], rfl, rfl, rfl, fun i sh hi => by cases hi⟩
  | [], _, _ :: _, ds, _, _, h, _ => by cases ds <;> exact False.elim h
  | _ :: _, _, [], ds, _, _, h, _ => by cases ds <;> exact False.elim h
  | _ :: _, _, _ :: _, [], _, _, h, _ => False.elim h
  | t :: ts, shs, v :: vs, d :: ds, ps, h, ht, hv => by
    simp only [shsE] at h
    split at h
    · rename_i s l h1 h2
      cases h
      obtain ⟨p, q, ht1, ht2, _⟩ := ht
      obtain ⟨flat, ess, a1, a2, a3, a4⟩ := shE_lies h1 (hv 0 t v rfl rfl) ht1
      obtain ⟨flv, ess', b1, b2, b3, b4⟩ := shsE_lies h2 ht2 fun j t v hj hv' => hv (j + 1) t v (by simpa using hj) (by simpa using hv')
      have hent : entsQ (s :: l) = s.ents ++ entsQ l := by simp [entsQ]
      refine ⟨flat ++ flv, ess ++ ess', ?_, by rw [hent]; simp [a3, b2], by rw [hent]; simp [a1, b3], fun i sh hi => ?_⟩
      · cases s with
        | one e => obtain rfl : flat = [v] := a2; exact ⟨flv, rfl, b1⟩
        | grp es => exact ⟨flat, flv, rfl, a1, a2, b1⟩
      · rw [hent] at hi
        by_cases hlt : i < s.ents.length
        · rw [List.getElem?_append_left hlt] at hi
          obtain ⟨x, q1, q2⟩ := a4 i sh hi
          refine ⟨x, by rw [List.getElem?_append_left (by omega)]; exact q1, ?_⟩
          rw [List.getD_eq_getElem?_getD, List.getElem?_append_left (by omega), ← List.getD_eq_getElem?_getD]
          exact q2
        · rw [List.getElem?_append_right (by omega)] at hi
          obtain ⟨x, q1, q2⟩ := b4 _ sh hi
          refine ⟨x, by rw [List.getElem?_append_right (by omega), a1]; exact q1, ?_⟩
          rw [List.getD_eq_getElem?_getD, List.getElem?_append_right (by omega), ← List.getD_eq_getElem?_getD, a3]
          exact q2
    · cases h
theorem yes_holds {v : Value} {w' : World} {lo : Nat} (h : (RS.p (.c (.b true))).Holds w' lo v) : v = .bool true := by
  obtain ⟨flat, bs, h1, h2, _⟩ := h
  obtain rfl : flat = [v] := h1
  obtain ⟨x, y, _, h3, _⟩ := h2
  exact h3.1
theorem yes_of {m : Mem} {v : AV} (h : v = .one (.sb true) ∨ v = .one (.lb true)) : (RS.p (.c (.b true))).sat m v := by
  rcases h with rfl | rfl
  · exact ⟨[.sb true], [], ⟨_, rfl, rfl⟩, ⟨[], [], rfl, ⟨rfl, rfl⟩, rfl⟩, List.nodup_nil⟩
  · exact ⟨[.lb true], [], ⟨_, rfl, rfl⟩, ⟨[], [], rfl, ⟨rfl, rfl⟩, rfl⟩, List.nodup_nil⟩
theorem law_s {C : Cfg} (hC : COk C) {G : List (Nat × List SV)} (hG : C.gd = G) (hgl : C.gl = glFrom 0 G) {g : Nat} {fn : Func} (hfn : FnOk C.P g fn) {shs : List SH} (hsh : shsE C.P fn.params.toList = some shs) (n : Nat)
    (hrun : ∀ Ms : Nat → List Int, okE Ms 0 (entsQ shs) → ∃ o, callA C false n fn (groupQ shs (argsE G.length Ms 0 (entsQ shs))) (memX G (blksE G.length Ms 0 (entsQ shs))) = o ∧ o.sat fun v _ => v = .one (.sb true) ∨ v = .one (.lb true))
    {W : World} {base : Nat} {args : Array Value} {ds : List (DataW H)} {ps : List MemPlace} (hT : DataW.TrodAll enc C.P W 0 (fun _ => true) true fn.params.toList args.toList ds ps)
    (hval : ∀ (j : Nat) t v, fn.params[j]? = some t → args[j]? = some v → Value.okWide C.P W .any base t v) (hgd : GD G W.heap.size W) :
    CallsL C.J g args W fun e w' => e = .returned (.bool true) ∧ Below W.heap.size W w' := by
  subst hG
  obtain ⟨flv, ess, h1, h2, h3, h4⟩ := shsE_lies hsh hT fun j t v ht hv => hval j t v (by simpa using ht) (by simpa using hv)
  have mono : ∀ {K K' : AV → Mem → Prop} (o : Out), (∀ v m, K v m → K' v m) → o.sat K → o.sat K' := by
    intro K K' o hk
    induction o with
    | bad _ => exact id
    | need p o ih => exact fun h => ⟨h.1, ih h.2⟩
    | br c t f iht ihf => exact fun h => ⟨fun e => iht (h.1 e), fun e => ihf (h.2 e)⟩
    | both a b iha ihb => exact fun h => ⟨iha h.1, ihb h.2⟩
    | done v m => exact hk v m
  have := fok_core hC hgl hfn (shs := shs) (conds := fun _ => []) (T := fun _ => .one (.p (.c (.b true)))) n (fun Ms hok _ => by
    obtain ⟨o, ho, hs⟩ := hrun Ms hok
    exact ⟨o, ho, mono o (fun v m h => yes_of h) hs⟩) hgd h1 h2 h3 h4 trivial
  refine this.mono fun e w' ⟨v, he, hb, hv⟩ => ⟨?_, hb⟩
  rw [he, yes_holds hv]
end
theorem law_lifted_laid_s {K : Checked} {g : Nat} {fn : Func} {s : ChangeSpec} {bt : TypeId} {laid : List (String × DataW Unit)} (own : ownKnob K.prog.godebug = none) (noInit : K.prog.inits.idxOf? g = none) (hfn : K.prog.funcs[g]? = some fn)
    (hl : laidOutB K.prog = true) (hp : (fn.params.toList.all fun t => K.prog.readableRec t && decide (t < K.prog.types.size)) = true) (hres : fn.resultTypes = #[bt]) (hbt : K.prog.underlying bt = some .bool) (hv : s.vars = [])
    (hspec : ∀ (H : Type) (ds : List (DataW H)), ds.length = fn.params.toList.length → s.fn H ds = { results := [.lit (.bool true)], args := ds })
    (contract : ∀ (H : Type) (enc : TypeId × Value → H) (W : World) (base : Nat) (args : Array Value) (ds : List (DataW H)) (ps : List MemPlace), DataW.TrodAll enc K.prog W 0 (fun _ => true) true fn.params.toList args.toList ds ps → (∀ (j : Nat) t v, fn.params[j]? = some t → args[j]? = some v → Value.okWide K.prog W .any base t v) → laidMetH K.prog laid W →
      CallsL (loneJ K.prog) g args W fun e w' => e = .returned (.bool true) ∧ Below W.heap.size W w')
    (os : Os) (started : os.Started) (H : Type) (enc : TypeId × Value → H)
    (witness : ∃ (w : World) (tape : Tape) (i : Input), w.os = os ∧ (w.forCall tape i).Shaped K.prog ∧ i.vars = [] ∧ Input.okWide K.prog (w.forCall tape i) .any w.heap.size g i ∧
      ((s.pre enc K.prog fn [] false (w.forCall tape i).memory i.args ∧ laidMetH K.prog laid (w.forCall tape i).memory) ∧ sizedMet enc K.prog fn (OpenSpec.ofChange s) false (w.forCall tape i).memory i.args) ∧ ({} : Assume).holds K.prog (lone (Frame.enter K.prog g i.args .normal) [] (w.forCall tape i))) :
    ReturnsInHanded {} K os g .any (fun w args => (s.pre enc K.prog fn [] false w args ∧ laidMetH K.prog laid w) ∧ sizedMet enc K.prog fn (OpenSpec.ofChange s) false w args) (s.post enc K.prog fn false true false false) := by
  refine returnsInHanded_of_change_and (C := K) (X := fun w _ => laidMetH K.prog laid w) (fun _ _ _ hh h => laidMetH.of_heap hh h) own started noInit hfn witness ?_
  intro W base args ds gs before hval hW _ _ hL _
  have hW' := hW
  obtain ⟨p, q, hA, _⟩ := hW'
  refine (contract H enc W base args ds p hA hval hL).alone.mono ?_
  rintro e W' ⟨rfl, hb⟩
  exact ⟨_, rfl, law_post hv hl hp hres hbt (hspec H) hW hb⟩
end Go.Ax

namespace Go.Proofs.YtbgneeokjhepcaaGreatDoor
open Go Go.Ax
theorem fok_view {C : Cfg} (hC : COk C) {G : List (Nat × List SV)} (hG : C.gd = G) (hgl : C.gl = glFrom 0 G) {g : Nat} {fn : Func} (hfn : FnOk C.P g fn) (hb : fn.body.isSome = true) {shs : List SH} {conds : List (List Int) → List Cnd} {T : List (List Int) → RT} (n : Nat)
    (hrun : ∀ Ms : Nat → List Int, okE Ms 0 (entsQ shs) → allP (conds (dataE Ms 0 (entsQ shs))) → ∃ r, (callA C true n fn (groupQ shs (argsE G.length Ms 0 (entsQ shs))) (memX G (blksE G.length Ms 0 (entsQ shs)))).view = r ∧ r.sat (RS.met (T (dataE Ms 0 (entsQ shs))).now)) : FOk C g (fsum shs conds T) :=
  fok_run hC hG hgl hfn hb n fun Ms h1 h2 => let ⟨_, e, h⟩ := hrun Ms h1 h2; ⟨_, rfl, view_sat (e ▸ h)⟩
theorem met_s {t : TypeId} {k : IntKind} {L : List Int} {n j : Nat} (h : n = L.length) : RS.met (.p (.c (.s t k L))) (.p (.c (.s t k L))) [n] [j] := ⟨rfl, ⟨h, trivial⟩, by simp⟩
abbrev PSs := List (Nat × (List AV → Mem → Option (List Cnd × AV)))
abbrev FSs := List (Nat × (List AV → Mem → Option (List Cnd × RT)))
abbrev LQs := List (Nat × Code × (TM → Mem → Option ((AE → TM → Mem → Out) → Out)))
abbrev EXs := List (Nat × (List AV → Option (List Cnd × AV)))
abbrev SPs := List (Nat × Nat × List Int)
theorem FOk.cast {C C' : Cfg} {g : Nat} {F : List AV → Mem → Option (List Cnd × RT)} (hP : C'.sig = C.sig) (_ : C'.gl = C.gl) (hgd : C'.gd = C.gd) (h : FOk C g F) : FOk C' g F := h.widen hP (by rw [hgd]; exact fun _ h => h)
theorem LoopQ.cast {C C' : Cfg} {bd : Code} {F : TM → Mem → Option ((AE → TM → Mem → Out) → Out)} (hP : C'.sig = C.sig) (hgl : C'.gl = C.gl) (hgd : C'.gd = C.gd) (h : LoopQ C bd F) : LoopQ C' bd F := by
  intro K k tm mem o hF hs B w0 env a w Q hr hk
  exact sig_loop hP (h K k tm mem o hF hs B w0 env a w Q (hr.cast hgl.symm hgd.symm) fun e tm' mem' env' a' w' q1 q2 q3 => hk e tm' mem' env' a' w' q1 (q2.cast hgl hgd) q3)
def cfgP (P : Program) (J : Judg P) (gd : List (Nat × List SV)) (lit : Bool) (lv : Nat) (sg : List Nat) (fns : List (Nat × Func)) (ps : PSs) (fs : FSs) (lq : LQs) (sp : SPs) (ex : EXs) (al : List Nat := []) : Cfg := { P := P, J := J, fns := fns, gl := glFrom 0 gd, gd := gd, ps := ps, fs := fs, lq := lq, sp := sp, ex := ex, lvl := lv, lit := lit, sg := sg, al := al }
abbrev cP0 (P : Program) (J : Judg P) (gd : List (Nat × List SV)) : Cfg := cfgP P J gd false 2 [] [] [] [] [] [] []
def ExP (P : Program) (p : Nat × (List AV → Option (List Cnd × AV))) : Prop := ExOk P p.1 p.2 ∧ ∀ l vals, NS l P (callFunc p.1 vals)
section
variable {P : Program} {J : Judg P} {gd : List (Nat × List SV)} {lit : Bool} {lv : Nat} {sg : List Nat} {fns : List (Nat × Func)} {ps : PSs} {fs : FSs} {lq : LQs} {sp : SPs} {ex : EXs} {al : List Nat}
theorem cokP (hm : P.follows .mixedOrders = true) (hl : J.lvl ≤ lv) (h1 : ∀ p ∈ fns, FnOk P p.1 p.2) (h2 : ∀ p ∈ ps, PSOk (cP0 P J gd) p.1 p.2) (h3 : ∀ p ∈ fs, FOk (cP0 P J gd) p.1 p.2) (h4 : ∀ p ∈ lq, LoopQ (cP0 P J gd) p.2.1 p.2.2) (h5 : ∀ p ∈ ex, ExP P p) : COk (cfgP P J gd lit lv sg fns ps fs lq sp ex al) :=
  ⟨hm, hl, fun p hp vals => (h5 p hp).2 _ vals, (fun p hp => by cases hp), h1, fun p hp => (h2 p hp).cast rfl rfl rfl, (fun p hp => by cases hp), (fun p hp => by cases hp), fun p hp => (h5 p hp).1, (fun p hp => by cases hp), (fun p hp => LoopQ.cast (C := cP0 P J gd) (C' := cfgP P J gd lit lv sg fns ps fs lq sp ex al) rfl rfl rfl (h4 p hp)), fun p hp => FOk.cast (C := cP0 P J gd) (C' := cfgP P J gd lit lv sg fns ps fs lq sp ex al) rfl rfl rfl (h3 p hp), (fun p hp => by cases hp)⟩
theorem upFP {g : Nat} {F : List AV → Mem → Option (List Cnd × RT)} (h : FOk (cfgP P J gd lit lv sg fns ps fs lq sp ex al) g F) : FOk (cP0 P J gd) g F := FOk.cast (C := cfgP P J gd lit lv sg fns ps fs lq sp ex al) (C' := cP0 P J gd) rfl rfl rfl h
theorem upPP {g : Nat} {F : List AV → Mem → Option (List Cnd × AV)} (h : PSOk (cfgP P J gd lit lv sg fns ps fs lq sp ex al) g F) : PSOk (cP0 P J gd) g F := h.cast rfl rfl rfl
end
class JW where
  J : Judg Tryz.prog
  hJ : J.lvl ≤ 2
class JN extends JW where
  hN : J.lvl ≤ 1
@[reducible] noncomputable def aloneN : JN := { J := loneJ Tryz.prog, hJ := Nat.zero_le _, hN := Nat.zero_le _ }
set_option linter.unusedSectionVars false
section
variable [JW]
def gdM : List (Nat × List SV) := []
noncomputable abbrev cfgG (lit : Bool) (lv : Nat) (sg : List Nat) (fns : List (Nat × Func)) (ps : PSs) (fs : FSs) (lq : LQs) (sp : SPs) (ex : EXs) : Cfg := cfgP Tryz.prog JW.J gdM lit lv sg fns ps fs lq sp ex
noncomputable abbrev cfgA (lit : Bool) (lv : Nat) (fns : List (Nat × Func)) (ps : PSs) (fs : FSs) (lq : LQs) (sp : SPs) (ex : EXs) : Cfg := cfgG lit lv [] fns ps fs lq sp ex
noncomputable abbrev cfgM (fns : List (Nat × Func)) (ps : PSs) (fs : FSs) (lq : LQs) (sp : SPs) : Cfg := cfgA false 2 fns ps fs lq sp []
noncomputable abbrev cfgL (fns : List (Nat × Func)) (ps : PSs) (fs : FSs) : Cfg := cfgA true 2 fns ps fs [] [] []
noncomputable abbrev cM : Cfg := cfgM [] [] [] [] []
omit [JW] in
theorem mixedM : Tryz.prog.follows .mixedOrders = true := by kernel_rfl
abbrev ExAll (p : Nat × (List AV → Option (List Cnd × AV))) : Prop := ExP Tryz.prog p
theorem cokA {lit : Bool} {lv : Nat} {sg : List Nat} (hl : JW.J.lvl ≤ lv) {fns : List (Nat × Func)} {ps : PSs} {fs : FSs} {lq : LQs} {sp : SPs} {ex : EXs}
    (h1 : ∀ p ∈ fns, FnOk Tryz.prog p.1 p.2) (h2 : ∀ p ∈ ps, PSOk cM p.1 p.2) (h3 : ∀ p ∈ fs, FOk cM p.1 p.2) (h4 : ∀ p ∈ lq, LoopQ cM p.2.1 p.2.2) (h5 : ∀ p ∈ ex, ExAll p) : COk (cfgG lit lv sg fns ps fs lq sp ex) :=
  cokP mixedM hl h1 h2 h3 h4 h5
theorem cokM {fns : List (Nat × Func)} {ps : PSs} {fs : FSs} {lq : LQs} {sp : SPs}
    (h1 : ∀ p ∈ fns, FnOk Tryz.prog p.1 p.2) (h2 : ∀ p ∈ ps, PSOk cM p.1 p.2) (h3 : ∀ p ∈ fs, FOk cM p.1 p.2) (h4 : ∀ p ∈ lq, LoopQ cM p.2.1 p.2.2) : COk (cfgM fns ps fs lq sp) := cokA JW.hJ h1 h2 h3 h4 (fun p hp => by cases hp)
theorem cokL {fns : List (Nat × Func)} {ps : PSs} {fs : FSs}
    (h1 : ∀ p ∈ fns, FnOk Tryz.prog p.1 p.2) (h2 : ∀ p ∈ ps, PSOk cM p.1 p.2) (h3 : ∀ p ∈ fs, FOk cM p.1 p.2) : COk (cfgL fns ps fs) := cokA JW.hJ h1 h2 h3 (fun p hp => by cases hp) (fun p hp => by cases hp)
theorem upM {lit : Bool} {lv : Nat} {sg : List Nat} {fns : List (Nat × Func)} {ps : PSs} {fs : FSs} {lq : LQs} {sp : SPs} {ex : EXs} {g : Nat} {F : List AV → Mem → Option (List Cnd × RT)} (h : FOk (cfgG lit lv sg fns ps fs lq sp ex) g F) : FOk cM g F := upFP h
theorem upP {lit : Bool} {lv : Nat} {sg : List Nat} {fns : List (Nat × Func)} {ps : PSs} {fs : FSs} {lq : LQs} {sp : SPs} {ex : EXs} {g : Nat} {F : List AV → Mem → Option (List Cnd × AV)} (h : PSOk (cfgG lit lv sg fns ps fs lq sp ex) g F) : PSOk cM g F := upPP h
end
section
variable [JN]
end
inductive Cd where
  | le (a b : Int)
  | lt (a b : Int)
  | nle (a b : Nat)
  | nlt (a b : Nat)
  | eq (a b : Nat)
  | tr
  | and (x y : Cd)
def Cd.bool : Cd → Bool
  | .le a b => decide (a ≤ b)
  | .lt a b => decide (a < b)
  | .nle a b => Nat.ble a b
  | .nlt a b => Nat.blt a b
  | .eq a b => Nat.beq a b
  | .tr => true
  | .and x y => x.bool && y.bool
def Cd.all : List Cd → Bool
  | [] => true
  | c :: cs => match c.bool with | true => Cd.all cs | false => false
theorem mem0 {α : Type} {Q : α → Prop} : ∀ p ∈ ([] : List α), Q p := by intro p hp; cases hp
theorem mem1 {α : Type} {P : α → Prop} {x : α} (h : P x) : ∀ p ∈ [x], P p := by intro p hp; simp only [List.mem_cons, List.not_mem_nil, or_false] at hp; subst hp; exact h
theorem memc {α : Type} {P : α → Prop} {x : α} {l : List α} (h : P x) (hl : ∀ p ∈ l, P p) : ∀ p ∈ x :: l, P p := by
  intro p hp
  rcases List.mem_cons.1 hp with rfl | hp
  · exact h
  · exact hl p hp
theorem ok64 {n : Int} (h1 : -9223372036854775808 ≤ n) (h2 : n ≤ 9223372036854775807) : okI .i64 n := by
  unfold okI; simp [IntKind.min, IntKind.max, IntKind.bits, IntKind.signed]; omega
theorem of_oku {n : Int} (h : okI .u64 n) : 0 ≤ n ∧ n ≤ 18446744073709551615 := by
  unfold okI at h; simp [IntKind.min, IntKind.max, IntKind.bits, IntKind.signed] at h; omega
theorem oku {n : Int} (h1 : 0 ≤ n) (h2 : n ≤ 18446744073709551615) : okI .u64 n := by
  unfold okI; simp [IntKind.min, IntKind.max, IntKind.bits, IntKind.signed]; omega
def one (l : List (List Int)) (i : Nat) : Int := (l.getD i []).getD 0 0
def at2 (l : List (List Int)) (i j : Nat) : Int := (l.getD i []).getD j 0
def i64? (x : AV) : Option Int := match x.int with
  | .l .i64 n => some n
  | .s .i64 n => some n
  | _ => none
theorem i64_fits {x : AV} {n : Int} (h : i64? x = some n) : x.fits (.one (.si .i64 n)) := by
  unfold i64? at h
  split at h
  · rename_i n' hx
    cases h
    cases x with
    | one s =>
      cases s <;> simp only [AV.int] at hx <;> first | cases hx
      exact .inr (.inl rfl)
    | agg l => cases hx
    | tup l => cases hx
  · rename_i n' hx
    cases h
    cases x with
    | one s =>
      cases s <;> simp only [AV.int] at hx <;> first | cases hx
      exact .inl rfl
    | agg l => cases hx
    | tup l => cases hx
  · cases h
theorem sel_at {L : List Int} {j : Nat} (h : j < L.length) : sel L (((0 : Nat) : Int) + (j : Int)) = L[j] := by
  unfold sel
  rw [show (((0 : Nat) : Int) + (j : Int)).toNat = j by omega]
  simp [h]
theorem met_b {c : Bool} {ns js : List Nat} (hn : ns.length = 1) (hj : js = []) : RS.met (.p (.c (.b c))) (.p (.c (.b c))) ns js := ⟨rfl, by
  match ns, hn with
  | [x], _ => exact ⟨trivial, trivial⟩, by subst hj; exact List.nodup_nil⟩
def app1 (n : Nat) (L : List Int) (b : Int) (o : R2) : R2 := .need (n = L.length) (.need True (.need ((L ++ [b]).length ≤ 140737488355328 ∧ (L ++ [b]).length * 1 ≤ 140737488355328) o))
def appAll : List Int → Nat → List Int → (Nat → List Int → R2) → R2
  | [], n, L, f => f n L
  | b :: bs, n, L, f => app1 n L b (appAll bs (L ++ [b]).length (L ++ [b]) f)
theorem appAll_sat {K : RS → List Nat → List Nat → Prop} {f : Nat → List Int → R2} : ∀ (bs : List Int) (n : Nat) (L : List Int), n = L.length → L.length + bs.length ≤ 140737488355328 → (f (L ++ bs).length (L ++ bs)).sat K → (appAll bs n L f).sat K
  | [], n, L, hn, _, h => by subst hn; simpa [appAll] using h
  | b :: bs, n, L, hn, hl, h => by
    simp only [List.length_cons] at hl
    refine ⟨hn, trivial, by simp; omega, appAll_sat bs _ (L ++ [b]) rfl (by simp; omega) ?_⟩
    rw [List.append_assoc]
    exact h
def allQ : List Prop → Prop
  | [] => True
  | p :: ps => p ∧ allQ ps
def needR : List Prop → R2 → R2
  | [], o => o
  | p :: ps, o => .need p (needR ps o)
theorem needR_sat {K : RS → List Nat → List Nat → Prop} {o : R2} : ∀ {ps : List Prop}, allQ ps → o.sat K → (needR ps o).sat K
  | [], _, h => h
  | _ :: _, hp, h => ⟨hp.1, needR_sat hp.2 h⟩
def lenP (L : List Int) : Prop := L.length ≤ 140737488355328 ∧ L.length * 1 ≤ 140737488355328
instance (L : List Int) : Decidable (lenP L) := by unfold lenP; infer_instance
theorem wrap8 (x : Int) : IntKind.u8.wrap x = x % 256 := by simp [IntKind.wrap, IntKind.bits, IntKind.signed]
theorem partQ_all (L : List Int) : partQ L 0 L.length = L := by rw [partQ_eq]; simp
def noO : Out := .done (.one (.lb false)) Mem.empty
theorem eql_d {a b : Int} : cmpI .eql a b = decide (a = b) := by by_cases h : a = b <;> simp [cmpI, h]
end Go.Proofs.YtbgneeokjhepcaaGreatDoor

namespace Go.Proofs.YtbgneeokjhepcaaGreatDoor
open Go Go.Ax
section
variable {H : Type}
def litParts (P : Program) (g : TypeId → DataW H → Option (List Value)) : List (Nat × TypeId) → List (DataW H) → Nat → Option (List Value)
  | [], [], _ => some []
  | (o, t) :: pl, d :: ds, i => match Nat.beq o i, g t d with
    | true, some vs => match Nat.beq vs.length (P.cellsOf t), litParts P g pl ds (i + P.cellsOf t) with
      | true, some r => some (vs ++ r)
      | _, _ => none
    | _, _ => none
  | _, _, _ => none
def litCells (P : Program) : Nat → TypeId → DataW H → Option (List Value)
  | 0, _, _ => none
  | f + 1, t, d => match P.underlying t, d with
    | some (.int k), .lit (.int k' n) => match kEq k k' with | true => some [.int k n] | false => none
    | some .bool, .lit (.bool b) => some [.bool b]
    | some .string, .lit (.string s) => some [.string ⟨s.toArray⟩]
    | some (.struct fs), .agg ds => match litParts P (litCells P f) (fs.toList.map fun x => (x.offset, x.type)) ds 0 with
      | some vs => match Nat.beq vs.length (P.cellsOf t) with | true => some vs | false => none
      | none => none
    | some (.array n e), .agg ds => match litParts P (litCells P f) ((List.range n).map fun i => (i * P.cellsOf e, e)) ds 0 with
      | some vs => match Nat.beq vs.length (P.cellsOf t) with | true => some vs | false => none
      | none => none
    | _, _ => none
variable {enc : TypeId × Value → H} {P : Program} {w : World} {base : Nat} {sp : Nat → Bool} {held : Bool}
theorem litParts_eq {α : Type} {g : TypeId → DataW H → Option (List Value)} {rd : α → Option (DataW H × List MemPlace)} {pos : α → Nat × TypeId} {cs : List Value}
    (hrd : ∀ a d p vs, rd a = some (d, p) → g (pos a).2 d = some vs → (cs.drop (pos a).1).take (P.cellsOf (pos a).2) = vs) : ∀ {l : List α} {xs : List (DataW H × List MemPlace)} {i : Nat} {vs : List Value}, l.mapM rd = some xs → litParts P g (l.map pos) (xs.map (·.1)) i = some vs → (cs.drop i).take vs.length = vs
  | [], xs, i, vs, hm, h => by
    simp only [List.mapM_nil] at hm
    cases hm
    cases h
    simp
  | a :: l, xs, i, vs, hm, h => by
    rw [List.mapM_cons] at hm
    obtain ⟨x, hx, hm⟩ := Option.bind_eq_some_iff.1 hm
    obtain ⟨ys, hy, hm⟩ := Option.bind_eq_some_iff.1 hm
    cases hm
    simp only [List.map_cons, litParts] at h
    split at h
    · rename_i us ho hg
      split at h
      · rename_i r hl hr
        cases h
        have ho := Nat.eq_of_beq_eq_true ho
        have hl := Nat.eq_of_beq_eq_true hl
        have h1 := hrd a x.1 x.2 us hx hg
        have h2 := litParts_eq hrd hy hr
        rw [ho, ← hl] at h1
        rw [← hl] at h2
        rw [List.length_append, List.take_add, h1, List.drop_drop, h2]
      · cases h
    · cases h
theorem litCells_eq : ∀ (f fuel : Nat) (t : TypeId) (d : DataW H) (cs : List Value) (p : List MemPlace) (vs : List Value), DataW.trod enc P w base sp held fuel t cs = some (d, p) → litCells P f t d = some vs → cs = vs
  | 0, _, _, _, _, _, _, _, h => by cases h
  | _, 0, _, _, _, _, _, h, _ => by simp [DataW.trod] at h
  | f + 1, fuel + 1, t, d, cs, p, vs, h, hl => by
    unfold litCells at hl
    split at hl
    · rename_i k k' n ht
      split at hl
      · cases hl
        obtain ⟨m, rfl, hx, _⟩ := DataW.trod_int ht h
        cases hx; rfl
      · cases hl
    · rename_i b ht
      cases hl
      simp only [DataW.trod, ht] at h
      split at h <;> simp_all
    · rename_i s ht
      cases hl
      obtain ⟨b, rfl, hx, _⟩ := DataW.trod_string ht h
      cases hx; simp
    · rename_i fs ds ht
      split at hl
      · rename_i us hp
        split at hl
        · rename_i hle
          cases hl
          have hle := Nat.eq_of_beq_eq_true hle
          simp only [DataW.trod, ht] at h
          split at h
          · rename_i hlen
            obtain ⟨xs, hm, hx⟩ := Option.map_eq_some_iff.1 h
            have hxs : xs.map (·.1) = ds := by have := congrArg Prod.fst hx; simpa using this
            rw [← hxs] at hp
            have := litParts_eq (pos := fun x : Field => (x.offset, x.type)) (cs := cs) (fun a d p vs h1 h2 => litCells_eq f fuel _ _ _ p vs h1 h2) hm hp
            rw [List.drop_zero, List.take_of_length_le (by omega)] at this
            exact this
          · cases h
        · cases hl
      · cases hl
    · rename_i n e ds ht
      split at hl
      · rename_i us hp
        split at hl
        · rename_i hle
          cases hl
          have hle := Nat.eq_of_beq_eq_true hle
          simp only [DataW.trod, ht] at h
          split at h
          · rename_i hlen
            obtain ⟨xs, hm, hx⟩ := Option.map_eq_some_iff.1 h
            have hxs : xs.map (·.1) = ds := by have := congrArg Prod.fst hx; simpa using this
            rw [← hxs] at hp
            have := litParts_eq (pos := fun i : Nat => (i * P.cellsOf e, e)) (cs := cs) (fun a d p vs h1 h2 => litCells_eq f fuel _ _ _ p vs h1 h2) hm hp
            rw [List.drop_zero, List.take_of_length_le (by omega)] at this
            exact this
          · cases h
        · cases hl
      · cases hl
    · cases hl
end
theorem all2_absS (env : Nat → Nat) (m : Nat) : ∀ vs : List Value, All2 (SV.R env m) (vs.map absS) vs
  | [] => trivial
  | v :: vs => ⟨absS_R env m v, all2_absS env m vs⟩
theorem gd_of_lit {P : Program} {W : World} {name : String} {g : Nat} {d : DataW Unit} {rest : List (String × DataW Unit)} {t : TypeId} {vs : List Value} (hg : P.globalNamed name = some g) (hty : (P.globals[g]?).map (·.type) = some t) (hl : litCells P 9 t d = some vs)
    (h : laidMet P ((name, d) :: rest) W) : GD [(g, vs.map absS)] W.heap.size W := by
  obtain ⟨ps, ⟨g', t', cs, fuel, p, q, hg', ht', hvar, hd, _, _⟩, _⟩ := h
  obtain rfl := Option.some.inj (hg.symm.trans hg')
  obtain rfl := Option.some.inj (hty.symm.trans ht')
  have hc := litCells_eq 9 fuel _ _ _ _ _ hd hl
  intro p hp
  rw [List.mem_singleton.1 hp]
  unfold World.var? at hvar
  rw [hg] at hvar
  simp only [Option.bind_some] at hvar
  split at hvar
  · rename_i cs' t fr hcell
    cases hvar
    refine ⟨(Array.getElem?_eq_some_iff.1 hcell).1, vs, [], t, fr, ?_, ?_⟩
    · rw [hcell, ← hc]; simp
    · exact all2_absS _ _ vs
  · cases hvar
end Go.Proofs.YtbgneeokjhepcaaGreatDoor

namespace Go.Proofs.YtbgneeokjhepcaaGreatDoor
open Go Go.Ax
set_option linter.unusedSectionVars false
variable [JW]
noncomputable def cellsE : List SV := ((litCells Tryz.prog 9 128 (Rows.laid_cribble_alg_entries : DataW Unit)).getD []).map absS
noncomputable def gdE : List (Nat × List SV) := [(0, cellsE)]
noncomputable abbrev cE : Cfg := cP0 Tryz.prog JW.J gdE
def kinds : List Int := [0, 1, 1, 1, 1, 1, 1, 2, 2, 2, 2, 3, 3, 4, 4]
def blocks : List Int := [0, 64, 64, 128, 128, 128, 128, 144, 136, 104, 72, 168, 136, 168, 136]
def selK (L : List Int) (a : Int) : Int := match decide (0 ≤ a) && decide (a < 15) with | true => L.getD a.toNat 0 | false => 0
def okV (n : Int) : Out → Bool
  | .br c t f => match c with | true => okV n t | false => okV n f
  | .done (.one (.li .i64 m)) _ => decide (m = n)
  | .done (.one (.si .i64 m)) _ => decide (m = n)
  | _ => false
abbrev KV (n : Int) : AV → Mem → Prop := fun v _ => v.flat = true ∧ ∀ val, v.R (fun _ => 0) 0 val → ((GR.p (.w .i64 n)).mk false).R (fun _ => 0) 0 val
theorem okV_sat {n : Int} : ∀ {o : Out}, okV n o = true → o.sat (KV n)
  | .br true t _, h => ⟨fun _ => okV_sat (o := t) h, fun h => by cases h⟩
  | .br false _ f, h => ⟨fun h => (by cases h), fun _ => okV_sat (o := f) h⟩
  | .done (.one (.li .i64 m)) _, h => by
    have h : m = n := of_decide_eq_true h
    subst h; exact sat_sym rfl rfl
  | .done (.one (.si .i64 m)) _, h => by
    have h : m = n := of_decide_eq_true h
    subst h; exact sat_same rfl
def brF : Out → Out
  | .br _ _ f => f
  | o => o
def d0 (n : Int) : Out := .done (.one (.li .i64 n)) Mem.empty
theorem psok_sel {C : Cfg} (hC : COk C) {G : List (Nat × List SV)} (hG : C.gd = G) (hgl : C.gl = glFrom 0 G) {g : Nat} {fn : Func} (hfn : FnOk C.P g fn) (hb : fn.body.isSome = true) (L : List Int) (n : Nat)
    (hin : ((List.range 15).all fun i => okV (L.getD i 0) (callA C false n fn [.one (.si .i64 (i : Int))] (memG G))) = true)
    (hout : ∀ a : Int, a < 0 ∨ 15 ≤ a → (callA C false n fn [.one (.si .i64 a)] (memG G)).sat (KV 0)) : PSOk C g (gsum [.w .i64] (fun _ => []) fun l => .p (.w .i64 (selK L (one l 0)))) :=
  psok_e hC hG hgl hfn hb n (fun fs => [.one (.si .i64 (fs 0 0))]) (fun _ => rfl) fun fs _ _ => ⟨_, rfl, by
    show Out.sat (KV (selK L (fs 0 0))) _
    generalize fs 0 0 = a
    by_cases h : 0 ≤ a ∧ a < 15
    · obtain ⟨i, rfl⟩ : ∃ i : Nat, a = (i : Int) := ⟨a.toNat, by omega⟩
      have e : selK L (i : Int) = L.getD i 0 := by unfold selK; rw [decide_eq_true h.1, decide_eq_true h.2]; rfl
      rw [e]
      exact okV_sat (List.all_eq_true.1 hin i (List.mem_range.2 (by omega)))
    · have e : selK L a = 0 := by
        unfold selK
        cases h1 : decide (0 ≤ a) <;> cases h2 : decide (a < 15) <;> first | rfl | exact absurd ⟨of_decide_eq_true h1, of_decide_eq_true h2⟩ h
      rw [e]
      exact hout a (by omega)⟩
theorem out_two {a p q : Int} {op1 op2 : BinOp} {o rest : Out} (h : o = .br (cmpI op1 a p) (d0 0) (.br (cmpI op2 a q) (d0 0) rest)) (hc : cmpI op1 a p = true ∨ cmpI op2 a q = true) : o.sat (KV 0) := by
  subst h
  refine ⟨fun _ => sat_sym rfl rfl, fun h1 => ⟨fun _ => sat_sym rfl rfl, fun h2 => ?_⟩⟩
  rcases hc with hc | hc
  · rw [hc] at h1; cases h1
  · rw [hc] at h2; cases h2
noncomputable abbrev cAK : Cfg := cfgP Tryz.prog JW.J gdE false 2 [] [(67, Tryz.f67)] [] [] [] [(3, 0, (List.range 15).map fun (i : Nat) => (i : Int))] []
theorem cokAK : COk cAK := cokP mixedM JW.hJ (mem1 ⟨Tryz.func67, by kernel_rfl⟩) mem0 mem0 mem0 mem0
theorem fn_AKind : FnOk Tryz.prog 33 Tryz.f33 := ⟨Tryz.func33, by kernel_rfl⟩
theorem fn_ABlock : FnOk Tryz.prog 36 Tryz.f36 := ⟨Tryz.func36, by kernel_rfl⟩
theorem run_AKind (a : Int) : callA cAK false 1000 Tryz.f33 [.one (.si .i64 a)] (memG gdE) = .br (cmpI .lss a 0) (d0 0) (.br (cmpI .geq a 15) (d0 0) (brF (brF (callA cAK false 1000 Tryz.f33 [.one (.si .i64 a)] (memG gdE))))) := by kernel_rfl
theorem run_ABlock (a : Int) : callA cAK false 1000 Tryz.f36 [.one (.si .i64 a)] (memG gdE) = .br (cmpI .lss a 0) (d0 0) (.br (cmpI .geq a 15) (d0 0) (brF (brF (callA cAK false 1000 Tryz.f36 [.one (.si .i64 a)] (memG gdE))))) := by kernel_rfl
def p_selV (g : Nat) (T : Int → Int) := (g, gsum [.w .i64] (fun _ => []) fun l => .p (.w .i64 (T (one l 0))))
set_option maxRecDepth 100000 in
theorem ps_AKind : PSOk cE (p_selV 33 (selK kinds)).1 (p_selV 33 (selK kinds)).2 :=
  upPP (psok_sel cokAK rfl rfl fn_AKind (by kernel_rfl) kinds 1000 (by kernel_rfl) fun a h => out_two (run_AKind a) (h.imp (fun h => decide_eq_true h) fun h => decide_eq_true h))
set_option maxRecDepth 100000 in
theorem ps_ABlock : PSOk cE (p_selV 36 (selK blocks)).1 (p_selV 36 (selK blocks)).2 :=
  upPP (psok_sel cokAK rfl rfl fn_ABlock (by kernel_rfl) blocks 1000 (by kernel_rfl) fun a h => out_two (run_ABlock a) (h.imp (fun h => decide_eq_true h) fun h => decide_eq_true h))
end Go.Proofs.YtbgneeokjhepcaaGreatDoor

namespace Go.Proofs.YtbgneeokjhepcaaGreatDoor
open Go Go.Ax
set_option linter.unusedSectionVars false
variable [JW]
theorem fn_Same : FnOk Tryz.prog 16 Tryz.f16 := ⟨Tryz.func16, by kernel_rfl⟩
noncomputable def bd_same : Code := loopAt Tryz.f16 0
structure ISame where
  n : Nat
  m : Nat
  L : List Int
  M : List Int
  i : Int
def bl_same (L M : List Int) : List AB := [.rseq .u8 L 1, .gone, .rseq .u8 M 3, .gone]
def St_same (x : ISame) : LS := ⟨[(4, .any), (0, .one (.slr 0 1 0 x.n)), (1, .one (.slr 2 3 0 x.m)), (5, .one (.si .i64 x.i))], bl_same x.L x.M⟩
def pi_same (s : LS) : Option ISame := match s with
  | ⟨[(4, _), (0, .one (.slr 0 1 0 n)), (1, .one (.slr 2 3 0 m)), (5, x)], [.rseq .u8 L 1, .gone, .rseq .u8 M 3, .gone]⟩ => match i64? x with
    | some i => some ⟨n, m, L, M, i⟩
    | none => none
  | _ => none
theorem pi_same_fits (s : LS) (x : ISame) (h : pi_same s = some x) : s.fits (St_same x) := by
  unfold pi_same at h
  split at h
  · split at h
    · rename_i i hi
      cases h
      exact ⟨⟨rfl, .inr (.inr rfl), rfl, .inl rfl, rfl, .inl rfl, rfl, i64_fits hi, trivial⟩, rfl⟩
    · cases h
  · cases h
theorem run_bd_same (x : ISame) (X : AE → Option LS → Prop) :
    exec cM 100 (.run bd_same) (slots 26 (St_same x).sl) (memX gdM (St_same x).bl) (endX 0 26 [4, 0, 1, 5] [.fix 0, .fix 1, .fix 2, .fix 3] [false, false, false, false] X) =
    .br (cmpI .lss x.i (x.n : Int)) (.need (0 ≤ x.i) (.need (x.i < (x.n : Int)) (.need (0 ≤ ((0 : Nat) : Int) + x.i) (.need (((0 : Nat) : Int) + x.i < (x.L.length : Int)) (.need (0 ≤ x.i) (.need (x.i < (x.m : Int)) (.need (0 ≤ ((0 : Nat) : Int) + x.i) (.need (((0 : Nat) : Int) + x.i < (x.M.length : Int))
        (.br (cmpI .neq (sel x.L (((0 : Nat) : Int) + x.i)) (sel x.M (((0 : Nat) : Int) + x.i)))
          (.need (X .ret (some ⟨[(4, .one (.lb false)), (0, .one (.slr 0 1 0 x.n)), (1, .one (.slr 2 3 0 x.m)), (5, .one (.si .i64 x.i))], bl_same x.L x.M⟩)) (.done .any Mem.empty))
          (.need (X .normal (some ⟨[(4, .any), (0, .one (.slr 0 1 0 x.n)), (1, .one (.slr 2 3 0 x.m)), (5, .one (.si .i64 (binI .add .i64 x.i 1)))], bl_same x.L x.M⟩)) (.done .any Mem.empty)))))))))))
      (.need (X (.exit 0) (some ⟨[(4, .any), (0, .one (.slr 0 1 0 x.n)), (1, .one (.slr 2 3 0 x.m)), (5, .one (.si .i64 x.i))], bl_same x.L x.M⟩)) (.done .any Mem.empty)) := by kernel_rfl
def Inv_same (x : ISame) : Prop := x.n = x.L.length ∧ x.m = x.M.length ∧ x.n = x.m ∧ x.n ≤ 9223372036854775807 ∧ ∃ j : Nat, x.i = (j : Int) ∧ j ≤ x.n ∧ x.L.take j = x.M.take j
def ok_same (x : ISame) : Prop := x.n = x.L.length ∧ x.m = x.M.length ∧ x.n = x.m ∧ x.n ≤ 9223372036854775807 ∧ x.i = 0
def Ex_same (x : ISame) (e : AE) (s : LS) : Prop := (e = .exit 0 ∧ x.L = x.M ∧ s = ⟨[], bl_same x.L x.M⟩) ∨ (e = .ret ∧ x.L ≠ x.M ∧ s = ⟨[(4, .one (.lb false))], bl_same x.L x.M⟩)
noncomputable def F_same : TM → Mem → Option ((AE → TM → Mem → Out) → Out) := lqF gdM 26 [] [4, 0, 1, 5] [.of 0, .of 1] [false, false, false, false] pi_same ok_same fun x k => .br (decide (x.L = x.M)) (k (.exit 0) ⟨[], bl_same x.L x.M⟩) (k .ret ⟨[(4, .one (.lb false))], bl_same x.L x.M⟩)
theorem lq_same : LoopQ cM bd_same F_same := by
  refine lq_rule (C := cM) (cokM mem0 mem0 mem0 mem0) rfl (n := 100) (ri := [.fix 0, .fix 1, .fix 2, .fix 3]) (St := St_same) (Inv := Inv_same) (mu := fun x => (x.n - x.i).toNat) (Ex := Ex_same) pi_same_fits (fun x h => ?_) (fun K k x _ hs e s he => ?_) (fun x hI => ?_)
  · obtain ⟨h1, h2, h3, h4, h5⟩ := h
    exact ⟨h1, h2, h3, h4, 0, h5, Nat.zero_le _, rfl⟩
  · rcases he with ⟨rfl, h, rfl⟩ | ⟨rfl, h, rfl⟩
    · exact hs.1 (decide_eq_true h)
    · exact hs.2 (decide_eq_false h)
  · show Out.sat (fun _ _ => True) (exec cM 100 (.run bd_same) (slots 26 (St_same x).sl) (memX gdM (St_same x).bl) (endX 0 26 [4, 0, 1, 5] [.fix 0, .fix 1, .fix 2, .fix 3] [false, false, false, false] _))
    rw [run_bd_same]
    obtain ⟨n, m, L, M, i⟩ := x
    obtain ⟨h1, h2, h3, h4, j, h5, h6, h7⟩ := hI
    dsimp only at h1 h2 h3 h4 h5 h6 h7 ⊢
    subst h5 h1
    refine ⟨fun hc => ?_, fun hc => ⟨⟨_, .inl ⟨rfl, ?_, rfl⟩, trivial, rfl⟩, trivial⟩⟩
    · have hc : (j : Int) < L.length := of_decide_eq_true hc
      have hj : j < L.length := by omega
      have hj' : j < M.length := by omega
      refine ⟨by omega, hc, by omega, by omega, by omega, by omega, by omega, by omega, fun hd => ?_, fun hd => ?_⟩
      · rw [sel_at hj, sel_at hj'] at hd
        have hd : L[j] ≠ M[j] := by simpa [cmpI] using hd
        refine ⟨⟨_, .inr ⟨rfl, fun e => hd (by simp only at e; subst e; rfl), rfl⟩, ⟨rfl, .inl rfl, trivial⟩, rfl⟩, trivial⟩
      · rw [sel_at hj, sel_at hj'] at hd
        have hd : L[j] = M[j] := by simpa [cmpI] using hd
        have hi' : binI .add .i64 (j : Int) 1 = ((j + 1 : Nat) : Int) := by
          show IntKind.i64.wrap _ = _
          rw [wrap_ok (ok64 (by omega) (by omega))]; omega
        refine ⟨⟨⟨L.length, m, L, M, ((j + 1 : Nat) : Int)⟩, ⟨rfl, h2, h3, h4, j + 1, rfl, by simp only; omega, ?_⟩, by simp only; omega, fun e s' h => h, ⟨rfl, .inl rfl, rfl, .inl rfl, rfl, .inl rfl, rfl, .inl (by rw [hi']), trivial⟩, rfl⟩, trivial⟩
        rw [List.take_succ_eq_append_getElem hj, List.take_succ_eq_append_getElem hj', h7, hd]
    · have hc : ¬ (j : Int) < L.length := of_decide_eq_false hc
      have : j = L.length := by omega
      subst this
      rw [List.take_length] at h7
      rw [h7, List.take_of_length_le (by omega)]
theorem run_Same (n m : Nat) (L M : List Int) : (callA (cfgM [] [] [] [(4, bd_same, F_same)] []) true 100 Tryz.f16 [.one (.slr 0 1 0 n), .one (.slr 2 3 0 m)] (memX gdM (bl_same L M))).view =
    .br (cmpI .neq (n : Int) (m : Int)) (.leaf (.p (.c (.b false))) [0] []) (.need (bd_same = bd_same) (.need (ok_same ⟨n, m, L, M, 0⟩)
      (.br (decide (L = M)) (.leaf (.p (.c (.b true))) [0] []) (.leaf (.p (.c (.b false))) [0] [])))) := by kernel_rfl
def T_Same : List (List Int) → RT := fun l => .one (.p (.c (.b (decide (l.getD 0 [] = l.getD 1 [])))))
def q_Same := (16, fsum [.one (.s .u8), .one (.s .u8)] (fun _ => []) T_Same)
set_option maxRecDepth 100000 in
theorem qs_Same : FOk cM q_Same.1 q_Same.2 :=
  upM (fok_run (C := cfgM [] [] [] [(4, bd_same, F_same)] []) (shs := [.one (.s .u8), .one (.s .u8)]) (T := T_Same) (cokM mem0 mem0 mem0 (mem1 lq_same)) rfl rfl fn_Same (by kernel_rfl) 100 fun Ms hok _ => ⟨_, rfl, view_sat (by
    have h1 : (Ms 0).length ≤ 9223372036854775807 := hok.1.1
    show R2.sat _ (callA (cfgM [] [] [] [(4, bd_same, F_same)] []) true 100 Tryz.f16 [.one (.slr 0 1 0 (Ms 0).length), .one (.slr 2 3 0 (Ms 1).length)] (memX gdM (bl_same (Ms 0) (Ms 1)))).view
    rw [run_Same]
    show R2.sat (RS.met (.p (.c (.b (decide (Ms 0 = Ms 1)))))) _
    refine ⟨fun hc => ?_, fun hc => ⟨rfl, ⟨rfl, rfl, ?_, h1, rfl⟩, fun hd => ?_, fun hd => ?_⟩⟩
    · have : Ms 0 ≠ Ms 1 := fun e => by rw [e] at hc; simp [cmpI] at hc
      rw [decide_eq_false this]; exact met_b rfl rfl
    · have : ((Ms 0).length : Int) = (Ms 1).length := by simpa [cmpI] using hc
      simp only; omega
    · rw [hd]; exact met_b rfl rfl
    · rw [hd]; exact met_b rfl rfl)⟩)
end Go.Proofs.YtbgneeokjhepcaaGreatDoor

namespace Go.Proofs.YtbgneeokjhepcaaGreatDoor
open Go Go.Ax
set_option linter.unusedSectionVars false
variable [JW]
def littleI (x : Int) : Nat → List Int
  | 0 => []
  | n + 1 => IntKind.u8.wrap (binI .rem .u64 x 256) :: littleI (binI .quo .u64 x 256) n
def downs : Nat → List Int
  | 0 => []
  | n + 1 => (n : Int) :: downs n
theorem downs_len : ∀ {n : Nat}, (downs n).length = n
  | 0 => rfl
  | n + 1 => by simp [downs, downs_len (n := n)]
def bigN (x : Int) (n : Nat) : List Int := (downs n).map fun k => sel (littleI x n) (((0 : Nat) : Int) + k)
theorem bigN_len {x : Int} {n : Nat} : (bigN x n).length = n := by simp [bigN, downs_len]
theorem remN {a : Nat} : binI .rem .u64 (a : Int) 256 = ((a % 256 : Nat) : Int) := by
  show (a : Int).tmod 256 = _
  rw [Int.tmod_eq_emod_of_nonneg (by omega)]
  omega
theorem quoN {a b : Nat} (h : a < 18446744073709551616) : binI .quo .u64 (a : Int) (b : Int) = ((a / b : Nat) : Int) := by
  show IntKind.u64.wrap ((a : Int).tdiv b) = _
  rw [Int.tdiv_eq_ediv_of_nonneg (by omega), ← Int.natCast_ediv]
  have := Nat.div_le_self a b
  generalize a / b = q at *
  exact wrap_ok (oku (by omega) (by omega))
theorem littleI_eq : ∀ {n x : Nat}, x < 18446744073709551616 → littleI (x : Int) n = (List.range n).map fun i => ((x / 256 ^ i % 256 : Nat) : Int)
  | 0, _, _ => rfl
  | n + 1, x, h => by
    have hq : binI .quo .u64 (x : Int) ((256 : Nat) : Int) = ((x / 256 : Nat) : Int) := quoN h
    have hq : binI .quo .u64 (x : Int) 256 = ((x / 256 : Nat) : Int) := hq
    rw [List.range_succ_eq_map, List.map_cons, List.map_map]
    show IntKind.u8.wrap (binI .rem .u64 (x : Int) 256) :: littleI (binI .quo .u64 (x : Int) 256) n = _
    rw [hq, littleI_eq (n := n) (x := x / 256) (by omega), remN, wrap8]
    congr 1
    · simp
    · refine List.map_congr_left fun i _ => ?_
      simp only [Function.comp, Nat.pow_succ]
      rw [Nat.div_div_eq_div_mul, Nat.mul_comm 256]
def bytesN (x : Nat) : Nat → List Int
  | 0 => []
  | n + 1 => ((x / 256 ^ n % 256 : Nat) : Int) :: bytesN x n
end Go.Proofs.YtbgneeokjhepcaaGreatDoor

namespace Go.Proofs.YtbgneeokjhepcaaGreatDoor
open Go Go.Ax
set_option linter.unusedSectionVars false
variable [JW]
def u8? (x : AV) : Option Int := match x.int with
  | .l .u8 n => some n
  | .s .u8 n => some n
  | _ => none
theorem u8_fits {x : AV} {n : Int} (h : u8? x = some n) : x.fits (.one (.si .u8 n)) := by
  unfold u8? at h
  split at h
  · rename_i n' hx
    cases h
    cases x with
    | one s =>
      cases s <;> simp only [AV.int] at hx <;> first | cases hx
      exact .inr (.inl rfl)
    | agg l => cases hx
    | tup l => cases hx
  · rename_i n' hx
    cases h
    cases x with
    | one s =>
      cases s <;> simp only [AV.int] at hx <;> first | cases hx
      exact .inl rfl
    | agg l => cases hx
    | tup l => cases hx
  · cases h
def lead (c : Int) : List Int → Nat
  | [] => 0
  | a :: l => match decide (a = c) with | true => lead c l + 1 | false => 0
theorem lead_le {c : Int} : ∀ {L : List Int}, lead c L ≤ L.length
  | [] => Nat.le_refl _
  | a :: l => by
    simp only [lead]
    split
    · have := lead_le (c := c) (L := l); simp; omega
    · omega
structure ITrim where
  t : TypeId
  L : List Int
  c : Int
  o0 : Nat
  n0 : Nat
  o : Nat
  n : Nat
def bl_trim (x : ITrim) : List AB := [.seq x.t .u8 x.L 1, .gone]
def St_trim (x : ITrim) : LS := ⟨[(0, .one (.sq 0 1 x.o x.n)), (1, .one (.si .u8 x.c))], bl_trim x⟩
noncomputable def bd_trim : Code := loopAt Tryz.f110 0
def pi_trim (s : LS) : Option ITrim := match s with
  | ⟨[(0, .one (.sq 0 1 o n)), (1, y)], [.seq t .u8 L 1, .gone]⟩ => match u8? y with
    | some c => some ⟨t, L, c, o, n, o, n⟩
    | none => none
  | _ => none
theorem pi_trim_fits (s : LS) (x : ITrim) (h : pi_trim s = some x) : s.fits (St_trim x) := by
  unfold pi_trim at h
  split at h
  · split at h
    · rename_i c hc
      cases h
      exact ⟨⟨rfl, .inl rfl, rfl, u8_fits hc, trivial⟩, rfl⟩
    · cases h
  · cases h
def ok_trim (x : ITrim) : Prop := x.o + x.n = x.L.length ∧ x.o0 = x.o ∧ x.n0 = x.n
def z_trim (x : ITrim) : Nat := lead x.c (x.L.drop x.o0)
noncomputable def F_trim (z : ITrim → Nat) : TM → Mem → Option ((AE → TM → Mem → Out) → Out) := lqF gdM 21 [] [0, 1] [.of 0] [false, false] pi_trim ok_trim fun x k => k (.exit 0) ⟨[(0, .one (.sq 0 1 (x.o0 + z x) (x.n0 - z x)))], bl_trim x⟩
theorem run_bd_trim (x : ITrim) (X : AE → Option LS → Prop) : exec cM 100 (.run bd_trim) (slots 21 (St_trim x).sl) (memX gdM (St_trim x).bl) (endX 0 21 [0, 1] [.fix 0, .fix 1] [false, false] X) =
    .br (cmpI .gtr (x.n : Int) 0) (.need ((0 : Int) ≤ 0) (.need ((0 : Int) < x.n) (.need (0 ≤ (x.o : Int) + 0) (.need ((x.o : Int) + 0 < x.L.length) (.br (cmpI .eql (sel x.L ((x.o : Int) + 0)) x.c)
      (.need ((0 : Int) ≤ 1) (.need ((1 : Int) ≤ x.n) (.need ((x.n : Int) ≤ x.n) (.need (X .normal (some ⟨[(0, .one (.sq 0 1 (x.o + (1 : Int).toNat) ((x.n : Int).toNat - (1 : Int).toNat))), (1, .one (.si .u8 x.c))], bl_trim x⟩)) (.done .any Mem.empty)))))
      (.need (X (.exit 0) (some (St_trim x))) (.done .any Mem.empty))))))) (.need (X (.exit 0) (some (St_trim x))) (.done .any Mem.empty)) := by kernel_rfl
def Inv_trim (x : ITrim) : Prop := x.o + x.n = x.L.length ∧ x.o0 ≤ x.o ∧ x.o0 + x.n0 = x.L.length ∧ z_trim x = (x.o - x.o0) + lead x.c (x.L.drop x.o)
def Ex_trim (x : ITrim) (e : AE) (s : LS) : Prop := e = .exit 0 ∧ s = ⟨[(0, .one (.sq 0 1 (x.o0 + z_trim x) (x.n0 - z_trim x)))], bl_trim x⟩
theorem lq_trim : LoopQ cM bd_trim (F_trim z_trim) := by
  refine lq_rule (C := cM) (cokM mem0 mem0 mem0 mem0) rfl (n := 100) (ri := [.fix 0, .fix 1]) (St := St_trim) (Inv := Inv_trim) (mu := fun x => x.n) (Ex := Ex_trim) pi_trim_fits (fun x h => ?_) (fun K k x _ hs e s he => ?_) (fun x hI => ?_)
  · obtain ⟨h1, h2, h3⟩ := h
    exact ⟨h1, by omega, by omega, by unfold z_trim; rw [h2]; omega⟩
  · obtain ⟨rfl, rfl⟩ := he
    exact hs
  · show Out.sat (fun _ _ => True) (exec cM 100 (.run bd_trim) (slots 21 (St_trim x).sl) (memX gdM (St_trim x).bl) (endX 0 21 [0, 1] [.fix 0, .fix 1] [false, false] _))
    rw [run_bd_trim]
    obtain ⟨t, L, c, o0, n0, o, n⟩ := x
    obtain ⟨h1, h2, h3, h4⟩ := hI
    dsimp only at h1 h2 h3 h4 ⊢
    have stop : lead c (L.drop o) = 0 → RoundOk St_trim Inv_trim (fun x => x.n) Ex_trim ⟨t, L, c, o0, n0, o, n⟩ (.exit 0) (some (St_trim ⟨t, L, c, o0, n0, o, n⟩)) := fun h0 => by
      have hz : z_trim ⟨t, L, c, o0, n0, o, n⟩ = o - o0 := by rw [h4]; omega
      refine ⟨_, ⟨rfl, rfl⟩, ⟨rfl, .inl ?_, trivial⟩, rfl⟩
      rw [hz]
      simp only
      rw [show o0 + (o - o0) = o by omega, show n0 - (o - o0) = n by omega]
    refine ⟨fun hc => ?_, fun hc => ⟨stop ?_, trivial⟩⟩
    · have hc : 0 < (n : Int) := of_decide_eq_true hc
      have hlt : o < L.length := by omega
      have hsel : sel L ((o : Int) + 0) = L[o] := by
        unfold sel
        rw [show ((o : Int) + 0).toNat = o by omega]
        simp [hlt]
      have hdrop : L.drop o = L[o] :: L.drop (o + 1) := List.drop_eq_getElem_cons hlt
      refine ⟨by omega, by omega, by omega, by omega, fun hd => ?_, fun hd => ⟨stop ?_, trivial⟩⟩
      · rw [hsel, eql_d] at hd
        have hd := of_decide_eq_true hd
        refine ⟨by omega, by omega, by omega, ⟨⟨t, L, c, o0, n0, o + 1, n - 1⟩, ⟨?_, ?_, h3, ?_⟩, ?_, fun e s' h => h, ⟨rfl, .inl ?_, rfl, .inl rfl, trivial⟩, rfl⟩, trivial⟩
        · show o + 1 + (n - 1) = L.length; omega
        · show o0 ≤ o + 1; omega
        · show z_trim ⟨t, L, c, o0, n0, o, n⟩ = (o + 1 - o0) + lead c (L.drop (o + 1))
          rw [h4, hdrop]
          simp only [lead]
          rw [decide_eq_true hd]
          simp only
          omega
        · show n - 1 < n; omega
        · show AV.one (.sq 0 1 (o + (1 : Int).toNat) ((n : Int).toNat - (1 : Int).toNat)) = AV.one (.sq 0 1 (o + 1) (n - 1))
          rfl
      · rw [hsel, eql_d] at hd
        rw [hdrop]
        simp only [lead]
        rw [hd]
    · have hc : ¬ 0 < (n : Int) := of_decide_eq_false hc
      rw [List.drop_of_length_le (by omega)]; rfl
def cbF : Nat → Nat → Nat
  | 0, _ => 0
  | f + 1, x => match decide (x = 0) with | true => 0 | false => cbF f (x / 256) + 1
theorem cbF_le : ∀ {f x m : Nat}, x < 256 ^ f → (cbF f x ≤ m ↔ x < 256 ^ m)
  | 0, x, m, h => by
    have : x = 0 := by simpa using h
    subst this
    simp [cbF]
    exact Nat.pow_pos (by omega)
  | f + 1, x, m, h => by
    simp only [cbF]
    cases hx : decide (x = 0) with
    | true =>
      have := of_decide_eq_true hx
      subst this
      simp
      exact Nat.pow_pos (by omega)
    | false =>
      have hx := of_decide_eq_false hx
      cases m with
      | zero => simp; exact hx
      | succ m =>
        have ih := cbF_le (f := f) (x := x / 256) (m := m) (by rw [Nat.pow_succ] at h; omega)
        rw [Nat.pow_succ]
        constructor
        · intro h'
          have := ih.1 (by simpa using h')
          omega
        · intro h'
          have := ih.2 (by omega)
          simpa using this
def dropZ (L : List Int) : List Int := L.drop (lead 0 L)
theorem bytesN_len {x : Nat} : ∀ {n : Nat}, (bytesN x n).length = n
  | 0 => rfl
  | n + 1 => by simp [bytesN, bytesN_len (n := n)]
theorem dropZ_bytes {x : Nat} : ∀ {n : Nat}, n ≤ 8 → x < 256 ^ n → dropZ (bytesN x n) = bytesN x (cbF 8 x)
  | 0, _, h => by
    have : x = 0 := by simpa using h
    subst this
    rfl
  | n + 1, hn, h => by
    have h8 : x < 256 ^ 8 := Nat.lt_of_lt_of_le h (Nat.pow_le_pow_right (by omega) hn)
    have hpos : 0 < 256 ^ n := Nat.pow_pos (by omega)
    have htop : x / 256 ^ n % 256 = x / 256 ^ n := Nat.mod_eq_of_lt (by rw [Nat.div_lt_iff_lt_mul hpos]; rw [Nat.pow_succ] at h; omega)
    by_cases hlt : x < 256 ^ n
    · have h0 : x / 256 ^ n = 0 := Nat.div_eq_of_lt hlt
      have e : bytesN x (n + 1) = ((x / 256 ^ n % 256 : Nat) : Int) :: bytesN x n := rfl
      rw [e, htop, h0]
      show dropZ (bytesN x n) = _
      exact dropZ_bytes (by omega) hlt
    · have hne : x / 256 ^ n ≠ 0 := by
        intro e
        rw [Nat.div_eq_zero_iff] at e
        omega
      have hc : cbF 8 x = n + 1 := by
        have a := (cbF_le (f := 8) (x := x) (m := n + 1) h8).2 h
        have b := (cbF_le (f := 8) (x := x) (m := n) h8)
        rcases Nat.lt_or_ge (cbF 8 x) (n + 1) with q | q
        · exact absurd (b.1 (by omega)) hlt
        · omega
      rw [hc]
      have e : bytesN x (n + 1) = ((x / 256 ^ n % 256 : Nat) : Int) :: bytesN x n := rfl
      rw [e, htop]
      unfold dropZ
      have : lead 0 (((x / 256 ^ n : Nat) : Int) :: bytesN x n) = 0 := by
        simp only [lead]
        rw [decide_eq_false (by omega)]
      rw [this]; rfl
def nbN (x : Nat) : Nat := cbF 7 (x / 256) + 1
theorem nbN_eq {x : Nat} (h0 : x ≠ 0) : nbN x = cbF 8 x := by
  unfold nbN
  show _ = match decide (x = 0) with | true => 0 | false => cbF 7 (x / 256) + 1
  rw [decide_eq_false h0]
theorem nbN_bd {x : Nat} (h : x < 18446744073709551616) : 1 ≤ nbN x ∧ nbN x ≤ 8 := by
  unfold nbN
  have := (cbF_le (f := 7) (x := x / 256) (m := 7) (by omega)).2 (by omega)
  omega
def digN (x : Nat) : List Int := bytesN x (nbN x)
theorem dig_trim {x : Nat} (h : x < 18446744073709551616) : dropZ (bytesN x 8) = if x = 0 then [] else digN x := by
  rw [dropZ_bytes (Nat.le_refl _) (by simpa using h)]
  split
  · rename_i h0; subst h0; rfl
  · rename_i h0; unfold digN; rw [nbN_eq h0]
end Go.Proofs.YtbgneeokjhepcaaGreatDoor

namespace Go.Proofs.YtbgneeokjhepcaaGreatDoor
open Go Go.Ax
set_option linter.unusedSectionVars false
variable [JW]
theorem fn_digits : FnOk Tryz.prog 92 Tryz.f92 := ⟨Tryz.func92, by kernel_rfl⟩
theorem fn_PutBig : FnOk Tryz.prog 74 Tryz.f74 := ⟨Tryz.func74, by kernel_rfl⟩
theorem fn_put : FnOk Tryz.prog 89 Tryz.f89 := ⟨Tryz.func89, by kernel_rfl⟩
theorem fn_TrimLeft : FnOk Tryz.prog 106 Tryz.f106 := ⟨Tryz.func106, by kernel_rfl⟩
theorem fn_trimByte : FnOk Tryz.prog 110 Tryz.f110 := ⟨Tryz.func110, by kernel_rfl⟩
theorem fn_Left : FnOk Tryz.prog 78 Tryz.f78 := ⟨Tryz.func78, by kernel_rfl⟩
noncomputable def fnsLeft : List (Nat × Func) := [(92, Tryz.f92), (74, Tryz.f74), (89, Tryz.f89), (106, Tryz.f106), (110, Tryz.f110)]
noncomputable def cLeft (z : ITrim → Nat) : Cfg := cfgM fnsLeft [] [] [(1, bd_trim, F_trim z)] []
def shrB (x i : Int) : Int := IntKind.u8.wrap (binI .shr .u64 x (binI .mul .i64 8 i))
def put8 (x : Int) : List Int := [7, 6, 5, 4, 3, 2, 1, 0].map (shrB x)
def cut0 : Int := sel (bytesI ⟨#[0]⟩) 0
def leafL (L : List Int) (b : Nat) : R2 := .leaf (.p (.c (.s 5 .u8 L))) [L.length] [b]
def tailZ (b : Nat) : R2 := needR [True, lenP ([1] ++ [0])] (leafL ([1] ++ [0]) b)
def trimI (n : Nat) (L : List Int) : ITrim := ⟨5, L, cut0, 0, n, 0, n⟩
noncomputable def trimR (z : ITrim → Nat) (n : Nat) (L : List Int) (zero : Nat → R2) (fin : Nat → Nat → R2) : R2 :=
  .br (cmpI .eql (n : Int) 0) (zero 0) (needR [(0 : Int) ≤ 0, (0 : Int) < ((1 : Nat) : Int)] (.br (cmpI .lss cut0 128) (needR [(0 : Int) ≤ 0, (0 : Int) < ((1 : Nat) : Int), bd_trim = bd_trim, ok_trim (trimI n L)]
    (.br (cmpI .eql ((n - z (trimI n L) : Nat) : Int) 0) (zero 2) (.br (cmpI .eql ((n - z (trimI n L) : Nat) : Int) 0) (zero 2) (fin (0 + z (trimI n L)) (n - z (trimI n L)))))) (.bad 15)))
theorem run_Left (x : Int) (z : ITrim → Nat) : (callA (cLeft z) true 1000 Tryz.f78 [.one (.si .u64 x)] (memX gdM [.gone, .gone])).view =
    needR [(0 : Int) ≤ 0, 0 ≤ binI .mul .i64 8 ((1 : Nat) : Int), ((1 : Nat) : Int) * binI .mul .i64 8 ((1 : Nat) : Int) ≤ 140737488355328, binI .mul .i64 8 ((1 : Nat) : Int) ≤ 9223372036854775807]
      (appAll (put8 x) 0 [] fun n L => trimR z n L (fun d => tailZ (31 + d)) fun o m => needR [o + m ≤ L.length, True, lenP ([IntKind.u8.wrap (m : Int)] ++ partQ L o m)] (leafL ([IntKind.u8.wrap (m : Int)] ++ partQ L o m) 32)) := by kernel_rfl
theorem shrB_eq {x i : Nat} (hi : i < 8) : shrB (x : Int) (i : Int) = ((x / 256 ^ i % 256 : Nat) : Int) := by
  unfold shrB
  have e : binI .mul .i64 8 (i : Int) = ((8 * i : Nat) : Int) := by
    show IntKind.i64.wrap _ = _
    rw [wrap_ok (ok64 (by omega) (by omega))]; omega
  rw [e]
  have : binI .shr .u64 (x : Int) ((8 * i : Nat) : Int) = ((x / 2 ^ (8 * i) : Nat) : Int) := by
    show (x : Int).fdiv (2 ^ (min ((8 * i : Nat) : Int).toNat IntKind.u64.bits)) = _
    simp only [Int.toNat_natCast, IntKind.bits]
    rw [Nat.min_eq_left (by omega), show ((2 : Int) ^ (8 * i)) = ((2 ^ (8 * i) : Nat) : Int) by simp, Int.fdiv_eq_ediv_of_nonneg _ (Int.natCast_nonneg _), ← Int.natCast_ediv]
  rw [this, wrap8, Nat.pow_mul, show (2 : Nat) ^ 8 = 256 from rfl]
  omega
theorem put8_eq (x : Nat) : put8 (x : Int) = bytesN x 8 := by
  show [shrB x ((7 : Nat) : Int), shrB x ((6 : Nat) : Int), shrB x ((5 : Nat) : Int), shrB x ((4 : Nat) : Int), shrB x ((3 : Nat) : Int), shrB x ((2 : Nat) : Int), shrB x ((1 : Nat) : Int), shrB x ((0 : Nat) : Int)] = _
  rw [shrB_eq (by omega), shrB_eq (by omega), shrB_eq (by omega), shrB_eq (by omega), shrB_eq (by omega), shrB_eq (by omega), shrB_eq (by omega), shrB_eq (by omega)]
  rfl
theorem cut0_eq : cut0 = 0 := by kernel_rfl
theorem digN_len {x : Nat} : (digN x).length = nbN x := bytesN_len
theorem trimR_sat {K : RS → List Nat → List Nat → Prop} {x : Nat} (hx : x < 18446744073709551616) {zero : Nat → R2} {fin : Nat → Nat → R2} (h0 : x = 0 → ∀ d, (zero d).sat K)
    (h1 : ∀ o, partQ (put8 (x : Int)) o (nbN x) = digN x → o + nbN x ≤ (put8 (x : Int)).length → (fin o (nbN x)).sat K) : (trimR z_trim 8 (put8 (x : Int)) zero fin).sat K := by
  have hl : (put8 (x : Int)).length = 8 := rfl
  have hz : z_trim (trimI 8 (put8 (x : Int))) = lead 0 (bytesN x 8) := by
    show lead cut0 ((put8 (x : Int)).drop 0) = _
    rw [cut0_eq, put8_eq]; rfl
  have hd := dig_trim hx
  have hle := lead_le (c := 0) (L := bytesN x 8)
  rw [bytesN_len] at hle
  unfold trimR
  rw [hz]
  refine ⟨fun h => absurd h (by decide), fun _ => needR_sat ⟨by omega, by omega, trivial⟩ ⟨fun _ => needR_sat ⟨by omega, by omega, rfl, ⟨rfl, rfl, rfl⟩, trivial⟩ ⟨fun he => ?_, fun he => ⟨fun he' => absurd (he'.symm.trans he) (by decide), fun _ => ?_⟩⟩, fun h => ?_⟩⟩
  · rw [eql_d] at he
    have he := of_decide_eq_true he
    have hlen := congrArg List.length hd
    unfold dropZ at hlen
    rw [List.length_drop, bytesN_len] at hlen
    split at hlen
    · rename_i hx0; exact h0 hx0 2
    · rw [digN_len] at hlen
      have := nbN_bd hx
      omega
  · rw [eql_d] at he
    have he := of_decide_eq_false he
    have hlen := congrArg List.length hd
    unfold dropZ at hlen hd
    rw [List.length_drop, bytesN_len] at hlen
    split at hlen
    · simp at hlen; omega
    · rename_i hx0
      rw [if_neg hx0] at hd
      rw [digN_len] at hlen
      rw [hlen, Nat.zero_add]
      refine h1 _ ?_ (by rw [hl]; omega)
      rw [partQ_eq, put8_eq, hd, List.take_of_length_le (by rw [digN_len]; omega)]
  · rw [cut0_eq] at h
    exact absurd h (by decide)
def leftN (x : Nat) : List Int := (nbN x : Int) :: digN x
theorem leftN_len {x : Nat} : (leftN x).length = nbN x + 1 := by simp [leftN, digN_len]
theorem wrap_nb {x : Nat} (hx : x < 18446744073709551616) : IntKind.u8.wrap ((nbN x : Nat) : Int) = (nbN x : Int) := by
  have := nbN_bd hx
  rw [wrap8]; omega
def T_Left : List (List Int) → List Int := fun l => leftN (one l 0).toNat
def q_Left := (78, fsum [.one (.w .u64)] (fun _ => []) fun l => .one (.p (.c (.s 5 .u8 (T_Left l)))))
theorem leafL_sat {L M : List Int} {b : Nat} (h : L = M) : (leafL L b).sat (RS.met (.p (.c (.s 5 .u8 M)))) := by
  subst h
  exact ⟨rfl, ⟨rfl, trivial⟩, by simp⟩
theorem cokLeft : COk (cLeft z_trim) := cokM (memc fn_digits (memc fn_PutBig (memc fn_put (memc fn_TrimLeft (mem1 fn_trimByte))))) mem0 mem0 (mem1 lq_trim)
set_option maxRecDepth 100000 in
theorem qs_Left : FOk cM q_Left.1 q_Left.2 :=
  upM (fok_run (C := cLeft z_trim) (shs := [.one (.w .u64)]) (T := fun l => .one (.p (.c (.s 5 .u8 (T_Left l))))) (conds := fun _ => []) cokLeft rfl rfl fn_Left (by kernel_rfl) 1000 fun Ms hok _ => ⟨_, rfl, view_sat (by
    obtain ⟨⟨hl, hk⟩, _⟩ := hok
    have hk : okI .u64 ((Ms 0).getD 0 0) := by
      match hq : Ms 0, hl with
      | [y], _ => exact hk y (by rw [hq]; simp)
    refine Eq.mpr (congrArg (R2.sat _) (run_Left ((Ms 0).getD 0 0) z_trim)) ?_
    show R2.sat (RS.met (.p (.c (.s 5 .u8 (leftN ((Ms 0).getD 0 0).toNat))))) _
    obtain ⟨h1, h2⟩ := of_oku hk
    generalize (Ms 0).getD 0 0 = y at *
    obtain ⟨x, rfl⟩ := Int.eq_ofNat_of_zero_le h1
    have hx : x < 18446744073709551616 := by omega
    rw [Int.toNat_natCast]
    refine needR_sat ⟨by decide, by decide, by decide, by decide, trivial⟩ (appAll_sat (put8 (x : Int)) 0 [] rfl (by simp [put8]) ?_)
    rw [List.nil_append]
    refine trimR_sat hx (fun h0 d => ?_) (fun o ho hlo => ?_)
    · subst h0
      exact needR_sat ⟨trivial, ⟨by decide, by decide⟩, trivial⟩ (leafL_sat rfl)
    · have hb := nbN_bd hx
      rw [ho, wrap_nb hx]
      exact needR_sat ⟨hlo, trivial, by unfold lenP; simp only [List.length_append, List.length_cons, List.length_nil, digN_len]; omega, trivial⟩ (leafL_sat rfl))⟩)
end Go.Proofs.YtbgneeokjhepcaaGreatDoor

namespace Go.Proofs.YtbgneeokjhepcaaGreatDoor
open Go Go.Ax
set_option linter.unusedSectionVars false
section
variable [JN]
theorem fn_Equal : FnOk Tryz.prog 53 Tryz.f53 := ⟨Tryz.func53, by kernel_rfl⟩
noncomputable abbrev cEq : Cfg := cfgG false 1 [] [] [] [] [] [] []
theorem run_Equal (n m : Nat) (L M : List Int) : (callA cEq true 1000 Tryz.f53 [.one (.slr 0 1 0 n), .one (.slr 2 3 0 m)] (memX gdM [.rseq .u8 L 1, .gone, .rseq .u8 M 3, .gone])).view =
    .need (0 + n ≤ L.length) (.need (0 + m ≤ M.length) (.leaf (.p (.c (.b (decide (partQ L 0 n = partQ M 0 m))))) [0] [])) := by kernel_rfl
def q_Equal := (53, fsum [.one (.s .u8), .one (.s .u8)] (fun _ => []) T_Same)
set_option maxRecDepth 100000 in
theorem qs_Equal : FOk cM q_Equal.1 q_Equal.2 :=
  upM (fok_run (C := cEq) (shs := [.one (.s .u8), .one (.s .u8)]) (T := T_Same) (cokA JN.hN mem0 mem0 mem0 mem0 mem0) rfl rfl fn_Equal (by kernel_rfl) 1000 fun Ms _ _ => ⟨_, rfl, view_sat (by
    refine Eq.mpr (congrArg (R2.sat _) (run_Equal (Ms 0).length (Ms 1).length (Ms 0) (Ms 1))) ?_
    rw [partQ_all, partQ_all]
    exact ⟨by omega, by omega, met_b rfl rfl⟩)⟩)
end
variable [JW]
theorem fn_Clone : FnOk Tryz.prog 97 Tryz.f97 := ⟨Tryz.func97, by kernel_rfl⟩
theorem fn_Text : FnOk Tryz.prog 43 Tryz.f43 := ⟨Tryz.func43, by kernel_rfl⟩
def cloneR (n : Nat) (L : List Int) : R2 := .br (decide (n = 0)) (.leaf (.p (.c .e)) [0] []) (needR [0 + n ≤ L.length, True, lenP ([] ++ partQ L 0 n)] (leafL ([] ++ partQ L 0 n) 3))
theorem run_Clone (n : Nat) (L : List Int) : (callA cM true 1000 Tryz.f97 [.one (.slr 0 1 0 n)] (memX gdM [.rseq .u8 L 1, .gone])).view =
    .br (decide (n = 0)) (.both (.leaf (.p (.c .e)) [0] []) (cloneR n L)) (cloneR n L) := by kernel_rfl
def sliceT (M : List Int) : RT := .br (decide (M = [])) (.one (.p (.c .e))) (.one (.p (.c (.s 5 .u8 M))))
def T_Clone : List (List Int) → RT := fun l => sliceT (l.getD 0 [])
def bigLen : Nat := 100000000000000
def q_Clone := (97, fsum [.one (.s .u8)] (fun l => [(l.getD 0 []).length ≤ bigLen]) T_Clone)
theorem lenP_of {L : List Int} (h : L.length ≤ 140737488355328) : lenP L := ⟨h, by omega⟩
theorem sliceT_e {M : List Int} (h : M = []) : (R2.leaf (.p (.c .e)) [0] []).sat (RS.met (sliceT M).now) := by
  subst h
  exact ⟨rfl, ⟨trivial, trivial⟩, List.nodup_nil⟩
theorem sliceT_s {M L : List Int} {b : Nat} (h : M ≠ []) (e : L = M) : (leafL L b).sat (RS.met (sliceT M).now) := by
  unfold sliceT
  rw [decide_eq_false h]
  exact leafL_sat e
theorem cloneR_sat {M : List Int} (hM : M.length ≤ bigLen) : (cloneR M.length M).sat (RS.met (sliceT M).now) := by
  unfold bigLen at hM
  refine ⟨fun h => sliceT_e (List.eq_nil_of_length_eq_zero (of_decide_eq_true h)), fun h => ?_⟩
  have h := of_decide_eq_false h
  rw [partQ_all, List.nil_append]
  exact needR_sat ⟨by omega, trivial, lenP_of (by omega), trivial⟩ (sliceT_s (fun e => h (by rw [e]; rfl)) rfl)
set_option maxRecDepth 100000 in
theorem qs_Clone : FOk cM q_Clone.1 q_Clone.2 :=
  upM (fok_run (C := cM) (shs := [.one (.s .u8)]) (T := T_Clone) (conds := fun l => [(l.getD 0 []).length ≤ bigLen]) (cokM mem0 mem0 mem0 mem0) rfl rfl fn_Clone (by kernel_rfl) 1000 fun Ms _ hc => ⟨_, rfl, view_sat (by
    have hc : (Ms 0).length ≤ bigLen := hc.1
    refine Eq.mpr (congrArg (R2.sat _) (run_Clone (Ms 0).length (Ms 0))) ?_
    show R2.sat (RS.met (sliceT (Ms 0)).now) _
    exact ⟨fun h => ⟨sliceT_e (List.eq_nil_of_length_eq_zero (of_decide_eq_true h)), cloneR_sat hc⟩, fun _ => cloneR_sat hc⟩)⟩)
def qLeftV (T : List (List Int) → List Int) := (78, fsum [.one (.w .u64)] (fun _ => []) fun l => .one (.p (.c (.s 5 .u8 (T l)))))
noncomputable def cText (T : List (List Int) → List Int) : Cfg := cfgM [] [] [qLeftV T] [] []
theorem run_Text (T : List (List Int) → List Int) (n : Nat) (L : List Int) : (callA (cText T) true 1000 Tryz.f43 [.one (.slr 0 1 0 n)] (memX gdM [.rseq .u8 L 1, .gone])).view =
    needR [(T [[binI .mul .u64 8 (IntKind.u64.wrap (n : Int))]]).length = (T [[binI .mul .u64 8 (IntKind.u64.wrap (n : Int))]]).length, 0 + n ≤ L.length, True, lenP (T [[binI .mul .u64 8 (IntKind.u64.wrap (n : Int))]] ++ partQ L 0 n)] (leafL (T [[binI .mul .u64 8 (IntKind.u64.wrap (n : Int))]] ++ partQ L 0 n) 4) := by kernel_rfl
def textN (M : List Int) : List Int := leftN (8 * M.length) ++ M
def T_Text : List (List Int) → List Int := fun l => textN (l.getD 0 [])
def q_Text := (43, fsum [.one (.s .u8)] (fun l => [(l.getD 0 []).length ≤ bigLen]) fun l => .one (.p (.c (.s 5 .u8 (T_Text l)))))
theorem left8 {n : Nat} (h : n ≤ bigLen) : T_Left [[binI .mul .u64 8 (IntKind.u64.wrap (n : Int))]] = leftN (8 * n) := by
  unfold bigLen at h
  have e1 : IntKind.u64.wrap (n : Int) = (n : Int) := wrap_ok (oku (by omega) (by omega))
  have e2 : binI .mul .u64 8 (n : Int) = ((8 * n : Nat) : Int) := by
    show IntKind.u64.wrap _ = _
    rw [wrap_ok (oku (by omega) (by omega))]; omega
  rw [e1, e2]
  rfl
theorem leftN_small {x : Nat} (h : x < 18446744073709551616) : (leftN x).length ≤ 9 := by
  rw [leftN_len]
  have := nbN_bd h
  omega
set_option maxRecDepth 100000 in
theorem qs_Text : FOk cM q_Text.1 q_Text.2 :=
  upM (fok_run (C := cText T_Left) (shs := [.one (.s .u8)]) (T := fun l => .one (.p (.c (.s 5 .u8 (T_Text l))))) (conds := fun l => [(l.getD 0 []).length ≤ bigLen]) (cokM mem0 mem0 (mem1 qs_Left) mem0) rfl rfl fn_Text (by kernel_rfl) 1000 fun Ms _ hc => ⟨_, rfl, view_sat (by
    have hc : (Ms 0).length ≤ bigLen := hc.1
    refine Eq.mpr (congrArg (R2.sat _) (run_Text T_Left (Ms 0).length (Ms 0))) ?_
    show R2.sat (RS.met (.p (.c (.s 5 .u8 (textN (Ms 0)))))) _
    rw [left8 hc, partQ_all]
    have hb : (Ms 0).length ≤ 100000000000000 := hc
    have := leftN_small (x := 8 * (Ms 0).length) (by omega)
    exact needR_sat ⟨rfl, by omega, trivial, lenP_of (by rw [List.length_append]; omega), trivial⟩ (leafL_sat rfl))⟩)
structure IPad where
  w : Int
  L0 : List Int
  n : Nat
  L : List Int
theorem neq_d {a b : Int} : cmpI .neq a b = !decide (a = b) := by by_cases h : a = b <;> simp [cmpI, h]
end Go.Proofs.YtbgneeokjhepcaaGreatDoor

namespace Go.Proofs.YtbgneeokjhepcaaGreatDoor
open Go Go.Ax
set_option linter.unusedSectionVars false
variable [JW]
end Go.Proofs.YtbgneeokjhepcaaGreatDoor

namespace Go.Proofs.YtbgneeokjhepcaaGreatDoor
open Go Go.Ax
set_option linter.unusedSectionVars false
variable [JW]
def u64? (x : AV) : Option Int := match x.int with
  | .l .u64 n => some n
  | .s .u64 n => some n
  | _ => none
theorem u64_fits {x : AV} {n : Int} (h : u64? x = some n) : x.fits (.one (.si .u64 n)) := by
  unfold u64? at h
  split at h
  · rename_i n' hx
    cases h
    cases x with
    | one s =>
      cases s <;> simp only [AV.int] at hx <;> first | cases hx
      exact .inr (.inl rfl)
    | agg l => cases hx
    | tup l => cases hx
  · rename_i n' hx
    cases h
    cases x with
    | one s =>
      cases s <;> simp only [AV.int] at hx <;> first | cases hx
      exact .inl rfl
    | agg l => cases hx
    | tup l => cases hx
  · cases h
structure IDig where
  n : Int
  s : Int
  x : Int
  tot : Int
end Go.Proofs.YtbgneeokjhepcaaGreatDoor

namespace Go.Proofs.YtbgneeokjhepcaaGreatDoor
open Go Go.Ax
set_option linter.unusedSectionVars false
variable [JW]
abbrev shN : SH := .grp [.s .u8, .s .u8]
def qNm (g : Nat) (T : List (List Int) → Bool) := (g, fsum [shN] (fun _ => []) fun l => .one (.p (.c (.b (T l)))))
def nmA (i n j m : Nat) : AV := .agg [.slr i (i + 1) 0 n, .slr j (j + 1) 0 m]
noncomputable def nmM (L M : List Int) : Mem := memX gdM [.rseq .u8 L 1, .gone, .rseq .u8 M 3, .gone]
noncomputable def fnsR : List (Nat × Func) := [(103, Tryz.f103), (104, Tryz.f104)]
theorem fn_both : FnOk Tryz.prog 103 Tryz.f103 := ⟨Tryz.func103, by kernel_rfl⟩
theorem fn_Right1 : FnOk Tryz.prog 104 Tryz.f104 := ⟨Tryz.func104, by kernel_rfl⟩
theorem fn_URight : FnOk Tryz.prog 90 Tryz.f90 := ⟨Tryz.func90, by kernel_rfl⟩
theorem cokNmR : COk (cfgM fnsR [] [] [] []) := cokM (memc fn_both (mem1 fn_Right1)) mem0 mem0 mem0
def leafB (b : Bool) : R2 := .leaf (.p (.c (.b b))) [0] []
theorem run_URight (n m : Nat) (L M : List Int) : (callA (cfgM fnsR [] [] [] []) true 1000 Tryz.f90 [nmA 0 n 2 m] (nmM L M)).view = .br (cmpI .leq (n : Int) 1000) (leafB (cmpI .leq (m : Int) 1000)) (leafB false) := by kernel_rfl
def maxB (k : Nat) (l : List (List Int)) : Bool := decide ((l.getD 0 []).length ≤ k) && decide ((l.getD 1 []).length ≤ k)
def emB (l : List (List Int)) : Bool := decide ((l.getD 0 []).length = 0) && decide ((l.getD 1 []).length = 0)
theorem leafB_sat {b c : Bool} (h : b = c) : (leafB b).sat (RS.met (.p (.c (.b c)))) := by subst h; exact met_b rfl rfl
theorem leq_n {n k : Nat} {i : Int} (hi : i = (k : Int)) : cmpI .leq (n : Int) i = decide (n ≤ k) := by subst hi; show decide ((n : Int) ≤ (k : Int)) = _; exact decide_eq_decide.2 (by omega)
theorem and_sat {c d e : Bool} (h : (c && d) = e) : (R2.br c (leafB d) (leafB false)).sat (RS.met (.p (.c (.b e)))) := by
  cases c with
  | true => exact ⟨fun _ => leafB_sat h, fun h => by cases h⟩
  | false => exact ⟨fun h => (by cases h), fun _ => leafB_sat h⟩
theorem nm_fok {fns : List (Nat × Func)} (hc : COk (cfgM fns [] [] [] [])) {g : Nat} {fn : Func} {T : List (List Int) → Bool} (hfn : FnOk Tryz.prog g fn) (hb : fn.body.isSome = true)
    (h : ∀ L M : List Int, L.length ≤ 9223372036854775807 → M.length ≤ 9223372036854775807 → ∃ r, (callA (cfgM fns [] [] [] []) true 1000 fn [nmA 0 L.length 2 M.length] (nmM L M)).view = r ∧ r.sat (RS.met (.p (.c (.b (T [L, M])))))) : FOk cM (qNm g T).1 (qNm g T).2 :=
  upM (fok_run (C := cfgM fns [] [] [] []) (shs := [shN]) (T := fun l => .one (.p (.c (.b (T l))))) (conds := fun _ => []) hc rfl rfl hfn hb 1000 fun Ms hok _ => ⟨_, rfl, view_sat (by
    obtain ⟨⟨h0, _⟩, ⟨h1, _⟩, _⟩ := hok
    obtain ⟨r, e, hs⟩ := h (Ms 0) (Ms 1) h0 h1
    exact Eq.mpr (congrArg (R2.sat _) e) hs)⟩)
noncomputable def q_URight := qNm 90 (maxB 1000)
theorem qs_URight : FOk cM q_URight.1 q_URight.2 := nm_fok cokNmR fn_URight (by kernel_rfl) fun L M _ _ => ⟨_, run_URight _ _ L M, and_sat (by rw [leq_n (k := 1000) (i := 1000) rfl, leq_n (k := 1000) (i := 1000) rfl]; rfl)⟩
end Go.Proofs.YtbgneeokjhepcaaGreatDoor

namespace Go.Proofs.YtbgneeokjhepcaaGreatDoor
open Go Go.Ax
set_option linter.unusedSectionVars false
variable [JW]
def qTextE (T : List (List Int) → List Int) := (43, fsum [.one (.s .u8)] (fun l => [(l.getD 0 []).length ≤ bigLen]) fun l => .one (.p (.c (.s 5 .u8 (T l)))))
theorem eqlT {x y : Int} (h : cmpI .eql x y = true) : x = y := by simpa [cmpI] using h
theorem eqlF {x y : Int} (h : cmpI .eql x y = false) : ¬ x = y := by simpa [cmpI] using h
theorem add6 {x y : Int} (h1 : 0 ≤ x) (h2 : 0 ≤ y) (h3 : x + y ≤ 1000000) : binI .add .i64 x y = x + y := wrap_ok (ok64 (by omega) (by omega))
theorem textN_small {A : List Int} (h : A.length ≤ 4000) : (textN A).length ≤ 4010 := by
  have h1 := leftN_small (x := 8 * A.length) (by omega)
  have h2 := leftN_len (x := 8 * A.length)
  have h3 : (textN A).length = (leftN (8 * A.length)).length + A.length := by unfold textN; rw [List.length_append]
  have h4 := nbN_bd (x := 8 * A.length) (by omega)
  omega
end Go.Proofs.YtbgneeokjhepcaaGreatDoor

namespace Go.Proofs.YtbgneeokjhepcaaGreatDoor
open Go Go.Ax
set_option linter.unusedSectionVars false
variable [JW]
end Go.Proofs.YtbgneeokjhepcaaGreatDoor

namespace Go.Proofs.YtbgneeokjhepcaaGreatDoor
open Go Go.Ax
set_option linter.unusedSectionVars false
variable [JW]
theorem fn_putN : FnOk Tryz.prog 89 Tryz.f89 := ⟨Tryz.func89, by kernel_rfl⟩
theorem fn_PutBigN : FnOk Tryz.prog 74 Tryz.f74 := ⟨Tryz.func74, by kernel_rfl⟩
theorem fn_CPut : FnOk Tryz.prog 38 Tryz.f38 := ⟨Tryz.func38, by kernel_rfl⟩
noncomputable def cPut : Cfg := cfgM [(89, Tryz.f89), (74, Tryz.f74)] [] [] [] []
def byteAt (x : Int) (i : Nat) : Int := IntKind.u8.wrap (binI .shr .u64 x (binI .mul .i64 8 (i : Int)))
def put16 (h l : Int) : List Int := (List.range 16).map fun j => match Nat.blt j 8 with | true => byteAt h (7 - j) | false => byteAt l (15 - j)
theorem run_CPut (h l : Int) : (callA cPut true 1000 Tryz.f38 [.agg [.si .u64 h, .si .u64 l]] (memX gdM [.gone, .gone])).view =
    .need ((0 : Int) ≤ 0) (.need ((0 : Int) ≤ 16) (.need (((1 : Nat) : Int) * 16 ≤ 140737488355328) (.need ((16 : Int) ≤ 9223372036854775807) (appAll (put16 h l) 0 [] fun n L => .leaf (.p (.c (.s 5 .u8 L))) [n] [52])))) := by kernel_rfl
def T_Put : List (List Int) → RT := fun l => .one (.p (.c (.s 5 .u8 (put16 (at2 l 0 0) (at2 l 0 1)))))
def q_Put := (38, fsum [.one (.l .u64 2)] (fun _ => []) T_Put)
theorem cokPut : COk cPut := cokM (memc fn_putN (mem1 fn_PutBigN)) mem0 mem0 mem0
set_option maxRecDepth 100000 in
theorem qs_Put : FOk cM q_Put.1 q_Put.2 :=
  upM (fok_run (C := cPut) (shs := [.one (.l .u64 2)]) (T := T_Put) (conds := fun _ => []) cokPut rfl rfl fn_CPut (by kernel_rfl) 1000 fun Ms _ _ =>
    ⟨_, rfl, view_sat (by
      have hr := run_CPut ((Ms 0).getD 0 0) ((Ms 0).getD 1 0)
      show R2.sat _ (callA cPut true 1000 Tryz.f38 [.agg [.si .u64 ((Ms 0).getD 0 0), .si .u64 ((Ms 0).getD 1 0)]] (memX gdM [.gone, .gone])).view
      rw [hr]
      exact ⟨by decide, by decide, by decide, by decide, appAll_sat _ 0 [] rfl (by simp [put16]) ⟨rfl, ⟨rfl, trivial⟩, by simp⟩⟩)⟩)
theorem fn_words : FnOk Tryz.prog 80 Tryz.f80 := ⟨Tryz.func80, by kernel_rfl⟩
theorem fn_Big64 : FnOk Tryz.prog 50 Tryz.f50 := ⟨Tryz.func50, by kernel_rfl⟩
theorem fn_Chunk : FnOk Tryz.prog 94 Tryz.f94 := ⟨Tryz.func94, by kernel_rfl⟩
theorem fn_Chunk1 : FnOk Tryz.prog 107 Tryz.f107 := ⟨Tryz.func107, by kernel_rfl⟩
theorem fn_CGet : FnOk Tryz.prog 48 Tryz.f48 := ⟨Tryz.func48, by kernel_rfl⟩
noncomputable def fnsW : List (Nat × Func) := [(80, Tryz.f80), (50, Tryz.f50), (94, Tryz.f94), (107, Tryz.f107)]
theorem fnsW_ok : ∀ p ∈ fnsW, FnOk Tryz.prog p.1 p.2 := memc fn_words (memc fn_Big64 (memc fn_Chunk (mem1 fn_Chunk1)))
noncomputable abbrev cGet : Cfg := cfgL fnsW [] []
def wordAt (L : List Int) (o : Nat) : Int := (List.range 8).foldl (fun x j => binI .or .u64 (binI .shl .u64 x 8) (IntKind.u64.wrap (L.getD (o + j) 0))) 0
set_option maxRecDepth 20000 in
theorem run_Get (f : Nat → Int) : (callA cGet true 1000 Tryz.f48 [.one (.slr 0 1 0 16)] (memX gdM [.rseq .u8 (tab 16 f) 1, .gone])).view =
    .leaf (.t [.g [.i .u64 (wordAt (tab 16 f) 0), .i .u64 (wordAt (tab 16 f) 8)], .c (.b true)]) [0, 0, 0] [] := by kernel_rfl
theorem FOk.cases {C : Cfg} {g : Nat} {shs : List SH} (c : List (List Int) → Prop) [∀ l, Decidable (c l)] {conds : List (List Int) → List Cnd} {T : List (List Int) → RT} (h1 : FOk C g (fsum shs (fun l => ↑(c l) :: conds l) T)) (h2 : FOk C g (fsum shs (fun l => ↑(¬ c l) :: conds l) T)) : FOk C g (fsum shs conds T) := by
  obtain ⟨h0, h1⟩ := h1
  obtain ⟨_, h2⟩ := h2
  refine ⟨h0, fun args mem r cs hF hp B w0 w env vals hm ha => ?_⟩
  unfold fsum at hF
  split at hF
  · rename_i fl hop
    split at hF
    · rename_i ps ess hpa
      cases hF
      rw [allP_iff] at hp
      by_cases hc : c ess
      · exact h1 args mem (T ess) (ps ++ ↑(c ess) :: conds ess) (by unfold fsum; rw [hop]; simp only [hpa]) ((allP_iff).2 ⟨hp.1, hc, hp.2⟩) B w0 w env vals hm ha
      · exact h2 args mem (T ess) (ps ++ ↑(¬ c ess) :: conds ess) (by unfold fsum; rw [hop]; simp only [hpa]) ((allP_iff).2 ⟨hp.1, hc, hp.2⟩) B w0 w env vals hm ha
    · cases hF
  · cases hF
end Go.Proofs.YtbgneeokjhepcaaGreatDoor

namespace Go.Proofs.YtbgneeokjhepcaaGreatDoor
open Go Go.Ax
set_option linter.unusedSectionVars false
variable [JW]
def valN (b : Nat → Nat) : Nat → Nat
  | 0 => 0
  | n + 1 => valN b n * 256 + b n
theorem valN_lt {b : Nat → Nat} (hb : ∀ i, b i < 256) : ∀ n, valN b n < 256 ^ n
  | 0 => by simp [valN]
  | n + 1 => by
    have := valN_lt hb n
    have h2 := hb n
    rw [Nat.pow_succ]
    simp only [valN]
    omega
theorem or_step {x b : Nat} (hx : x < 72057594037927936) (hb : b < 256) : binI .or .u64 (binI .shl .u64 (x : Int) 8) (IntKind.u64.wrap (b : Int)) = ((x * 256 + b : Nat) : Int) := by
  have e1 : binI .shl .u64 (x : Int) 8 = ((x * 256 : Nat) : Int) := by
    show IntKind.u64.wrap ((x : Int) * 2 ^ (min (8 : Int).toNat 64)) = _
    rw [show (min (8 : Int).toNat 64) = 8 from rfl, wrap_ok (oku (by omega) (by omega))]
    omega
  have e2 : IntKind.u64.wrap (b : Int) = (b : Int) := wrap_ok (oku (by omega) (by omega))
  rw [e1, e2]
  show IntKind.u64.wrap ((BitVec.ofInt 64 ((x * 256 : Nat) : Int) ||| BitVec.ofInt 64 ((b : Nat) : Int)).toNat : Nat) = _
  have e3 : (BitVec.ofInt 64 ((x * 256 : Nat) : Int) ||| BitVec.ofInt 64 ((b : Nat) : Int)).toNat = x * 256 + b := by
    rw [BitVec.toNat_or, BitVec.ofInt_natCast, BitVec.ofInt_natCast, BitVec.toNat_ofNat, BitVec.toNat_ofNat, Nat.mod_eq_of_lt (by omega), Nat.mod_eq_of_lt (by omega), Nat.mul_comm]
    have := Nat.two_pow_add_eq_or_of_lt (b := b) (i := 8) hb x
    rw [show (2 : Nat) ^ 8 = 256 from rfl] at this
    exact this.symm
  rw [e3, wrap_ok (oku (by omega) (by omega))]
theorem fold_val {L : List Int} {o : Nat} {b : Nat → Nat} (hb : ∀ i, b i < 256) : ∀ n, n ≤ 8 → (∀ i, i < n → L.getD (o + i) 0 = ((b i : Nat) : Int)) → (List.range n).foldl (fun x j => binI .or .u64 (binI .shl .u64 x 8) (IntKind.u64.wrap (L.getD (o + j) 0))) 0 = ((valN b n : Nat) : Int)
  | 0, _, _ => rfl
  | n + 1, hn, hL => by
    rw [List.range_succ, List.foldl_append, fold_val hb n (by omega) fun i hi => hL i (by omega)]
    simp only [List.foldl_cons, List.foldl_nil]
    rw [hL n (by omega)]
    refine or_step ?_ (hb n)
    have h1 := valN_lt hb n
    have h2 : 256 ^ n ≤ 256 ^ 7 := Nat.pow_le_pow_right (by omega) (by omega)
    have : (256 : Nat) ^ 7 = 72057594037927936 := rfl
    omega
theorem wordAt_val {L : List Int} {o : Nat} {b : Nat → Nat} (hb : ∀ i, b i < 256) (hL : ∀ i, i < 8 → L.getD (o + i) 0 = ((b i : Nat) : Int)) : wordAt L o = ((valN b 8 : Nat) : Int) := fold_val hb 8 (Nat.le_refl _) hL
def shrU (x k : Int) : Int := binI .shr .u64 x k
theorem shrU_nat {x k : Nat} (hk : k < 64) : shrU (x : Int) (k : Int) = ((x / 2 ^ k : Nat) : Int) := by
  show (x : Int).fdiv (2 ^ (min (k : Int).toNat IntKind.u64.bits)) = _
  simp only [Int.toNat_natCast, IntKind.bits]
  rw [Nat.min_eq_left (by omega), Int.fdiv_eq_ediv_of_nonneg _ (Int.le_of_lt (Int.pow_pos (by decide)))]
  rw [show ((2 : Int) ^ k) = ((2 ^ k : Nat) : Int) by simp]
  exact (Int.natCast_ediv _ _).symm
theorem byteAt_eq {x i : Nat} (hi : i < 8) : byteAt (x : Int) i = ((x / 256 ^ i % 256 : Nat) : Int) := by
  unfold byteAt
  have e : binI .mul .i64 8 (i : Int) = ((8 * i : Nat) : Int) := by
    show IntKind.i64.wrap _ = _
    rw [wrap_ok (ok64 (by omega) (by omega))]; omega
  rw [e]
  have := shrU_nat (x := x) (k := 8 * i) (by omega)
  unfold shrU at this
  rw [this, wrap8, Nat.pow_mul, show (2 : Nat) ^ 8 = 256 from rfl]
  omega
theorem bigN8 {x : Int} (h : okI .u64 x) : bigN x 8 = [byteAt x 7, byteAt x 6, byteAt x 5, byteAt x 4, byteAt x 3, byteAt x 2, byteAt x 1, byteAt x 0] := by
  obtain ⟨h1, h2⟩ := of_oku h
  obtain ⟨n, rfl⟩ := Int.eq_ofNat_of_zero_le h1
  have hs : ∀ k : Nat, k < 8 → sel (littleI (n : Int) 8) (((0 : Nat) : Int) + (k : Int)) = byteAt (n : Int) k := fun k hk => by
    rw [byteAt_eq hk, littleI_eq (by omega), sel_at (by simpa using hk)]
    simp
  show [sel (littleI (n : Int) 8) (((0 : Nat) : Int) + ((7 : Nat) : Int)), sel (littleI (n : Int) 8) (((0 : Nat) : Int) + ((6 : Nat) : Int)), sel (littleI (n : Int) 8) (((0 : Nat) : Int) + ((5 : Nat) : Int)), sel (littleI (n : Int) 8) (((0 : Nat) : Int) + ((4 : Nat) : Int)), sel (littleI (n : Int) 8) (((0 : Nat) : Int) + ((3 : Nat) : Int)), sel (littleI (n : Int) 8) (((0 : Nat) : Int) + ((2 : Nat) : Int)), sel (littleI (n : Int) 8) (((0 : Nat) : Int) + ((1 : Nat) : Int)), sel (littleI (n : Int) 8) (((0 : Nat) : Int) + ((0 : Nat) : Int))] = _
  rw [hs 7 (by omega), hs 6 (by omega), hs 5 (by omega), hs 4 (by omega), hs 3 (by omega), hs 2 (by omega), hs 1 (by omega), hs 0 (by omega)]
theorem put16_eq (h l : Int) : put16 h l = [byteAt h 7, byteAt h 6, byteAt h 5, byteAt h 4, byteAt h 3, byteAt h 2, byteAt h 1, byteAt h 0, byteAt l 7, byteAt l 6, byteAt l 5, byteAt l 4, byteAt l 3, byteAt l 2, byteAt l 1, byteAt l 0] := rfl
theorem put16_big {h l : Int} (hh : okI .u64 h) (hl : okI .u64 l) : put16 h l = bigN h 8 ++ bigN l 8 := by rw [put16_eq, bigN8 hh, bigN8 hl]; rfl
theorem wordAt_bytes {x : Nat} (hx : x < 18446744073709551616) {L : List Int} {o : Nat} (hL : ∀ i, i < 8 → L.getD (o + i) 0 = byteAt (x : Int) (7 - i)) : wordAt L o = (x : Int) := by
  rw [wordAt_val (b := fun i => x / 256 ^ (7 - i) % 256) (fun i => Nat.mod_lt _ (by omega)) fun i hi => by rw [hL i hi, byteAt_eq (by omega)]]
  congr 1
  simp only [valN]
  simp only [show 256 ^ (7 - 0) = 72057594037927936 from rfl, show 256 ^ (7 - 1) = 281474976710656 from rfl, show 256 ^ (7 - 2) = 1099511627776 from rfl, show 256 ^ (7 - 3) = 4294967296 from rfl, show 256 ^ (7 - 4) = 16777216 from rfl, show 256 ^ (7 - 5) = 65536 from rfl, show 256 ^ (7 - 6) = 256 from rfl, show 256 ^ (7 - 7) = 1 from rfl]
  omega
end Go.Proofs.YtbgneeokjhepcaaGreatDoor
