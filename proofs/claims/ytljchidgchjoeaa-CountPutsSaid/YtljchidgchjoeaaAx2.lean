/- The abstract executor: what its states say of a run; first lemmas. -/
import Derived.Test.YtljchidgchjoeaaAx1
namespace Go.Ax
open Go Go.RowKit

/-! ## Tables -/

theorem Tr.get_set_ne {α : Type} (t : Tr α) : ∀ (n m : Nat) (a : α), n ≠ m → (t.set n a).get m = t.get m := by
  induction t with
  | leaf => intro n m a _; rfl
  | node v l r ihl ihr =>
    intro n m a h
    unfold Tr.set
    cases hn : Nat.beq n 0 with
    | true =>
      have hn0 : n = 0 := Nat.eq_of_beq_eq_true hn
      have hm : Nat.beq m 0 = false := by
        cases hm : Nat.beq m 0 with
        | true => have := Nat.eq_of_beq_eq_true hm; omega
        | false => rfl
      simp only [Tr.get, hm]
    | false =>
      have hn0 : n ≠ 0 := fun e => by subst e; cases hn
      cases hb : Nat.beq (n % 2) 1 with
      | true =>
        have hb' := Nat.eq_of_beq_eq_true hb
        simp only [Tr.get]
        cases hm : Nat.beq m 0 with
        | true => rfl
        | false =>
          cases hc : Nat.beq (m % 2) 1 with
          | true => have hc' := Nat.eq_of_beq_eq_true hc; exact ihl _ _ _ (by omega)
          | false => rfl
      | false =>
        have hb' : n % 2 ≠ 1 := fun e => by rw [e] at hb; cases hb
        simp only [Tr.get]
        cases hm : Nat.beq m 0 with
        | true => rfl
        | false =>
          have hm0 : m ≠ 0 := fun e => by subst e; cases hm
          cases hc : Nat.beq (m % 2) 1 with
          | true => rfl
          | false =>
            have hc' : m % 2 ≠ 1 := fun e => by rw [e] at hc; cases hc
            exact ihr _ _ _ (by omega)

theorem Tr.get_set_eq {α : Type} (t : Tr α) : ∀ (n : Nat) (a x : α), (t.set n a).get n = some x → x = a := by
  induction t with
  | leaf => intro n a x h; cases h
  | node v l r ihl ihr =>
    intro n a x h
    unfold Tr.set at h
    cases hn : Nat.beq n 0 with
    | true => simp only [hn, Tr.get] at h; exact (Option.some.inj h).symm
    | false =>
      cases hb : Nat.beq (n % 2) 1 with
      | true => simp only [hn, hb, Tr.get] at h; exact ihl _ _ _ h
      | false => simp only [hn, hb, Tr.get] at h; exact ihr _ _ _ h

theorem Tr.get_mk {α : Type} (d : Nat) : ∀ n, (Tr.mk d : Tr α).get n = none := by
  induction d with
  | zero => intro n; rfl
  | succ d ih =>
    intro n
    simp only [Tr.mk, Tr.get]
    cases Nat.beq n 0 with
    | true => rfl
    | false => cases Nat.beq (n % 2) 1 <;> exact ih _

theorem kEq_iff {a b : IntKind} : kEq a b = true ↔ a = b := by cases a <;> cases b <;> simp [kEq]
theorem kEq_of {a b : IntKind} (h : kEq a b = true) : a = b := kEq_iff.1 h

/-! ## Lists that agree -/

theorem All2.length {α β : Type} {R : α → β → Prop} : ∀ {l : List α} {m : List β}, All2 R l m → l.length = m.length
  | [], [], _ => rfl
  | _ :: _, _ :: _, h => by simp [All2.length h.2]
  | [], _ :: _, h => h.elim
  | _ :: _, [], h => h.elim

theorem All2.imp {α β : Type} {R S : α → β → Prop} (hi : ∀ a b, R a b → S a b) : ∀ {l : List α} {m : List β}, All2 R l m → All2 S l m
  | [], [], _ => trivial
  | _ :: _, _ :: _, h => ⟨hi _ _ h.1, All2.imp hi h.2⟩
  | [], _ :: _, h => h.elim
  | _ :: _, [], h => h.elim

theorem All2.get {α β : Type} {R : α → β → Prop} : ∀ {l : List α} {m : List β} {i : Nat} {a : α}, All2 R l m → l[i]? = some a → ∃ b, m[i]? = some b ∧ R a b
  | a :: _, b :: _, 0, x, h, hx => by simp at hx; subst hx; exact ⟨b, rfl, h.1⟩
  | _ :: l, _ :: m, i + 1, x, h, hx => by
    simp only [List.getElem?_cons_succ] at hx ⊢
    exact All2.get h.2 hx
  | [], [], i, x, _, hx => by simp at hx
  | [], _ :: _, _, _, h, _ => h.elim
  | _ :: _, [], _, _, h, _ => h.elim

theorem All2.append {α β : Type} {R : α → β → Prop} : ∀ {l : List α} {m : List β} {l' : List α} {m' : List β}, All2 R l m → All2 R l' m' → All2 R (l ++ l') (m ++ m')
  | [], [], _, _, _, h => h
  | _ :: _, _ :: _, _, _, h, h' => ⟨h.1, All2.append h.2 h'⟩
  | [], _ :: _, _, _, h, _ => h.elim
  | _ :: _, [], _, _, h, _ => h.elim

theorem All2.take {α β : Type} {R : α → β → Prop} : ∀ {l : List α} {m : List β} (n : Nat), All2 R l m → All2 R (l.take n) (m.take n)
  | [], [], _, _ => by simp [All2]
  | _ :: _, _ :: _, 0, _ => by simp [All2]
  | _ :: _, _ :: _, n + 1, h => by simp only [List.take_succ_cons]; exact ⟨h.1, All2.take n h.2⟩
  | [], _ :: _, _, h => h.elim
  | _ :: _, [], _, h => h.elim

theorem All2.drop {α β : Type} {R : α → β → Prop} : ∀ {l : List α} {m : List β} (n : Nat), All2 R l m → All2 R (l.drop n) (m.drop n)
  | [], [], _, _ => by simp [All2]
  | _ :: _, _ :: _, 0, h => h
  | _ :: _, _ :: _, n + 1, h => by simp only [List.drop_succ_cons]; exact All2.drop n h.2
  | [], _ :: _, _, h => h.elim
  | _ :: _, [], _, h => h.elim

theorem All2.map_right {α β γ : Type} {R : α → β → Prop} (f : γ → β) : ∀ {l : List α} {m : List γ}, All2 (fun a c => R a (f c)) l m → All2 R l (m.map f)
  | [], [], _ => trivial
  | _ :: _, _ :: _, h => ⟨h.1, All2.map_right f h.2⟩
  | [], _ :: _, h => h.elim
  | _ :: _, [], h => h.elim

theorem All2.map_left {α β γ : Type} {R : α → β → Prop} (f : γ → α) : ∀ {l : List γ} {m : List β}, All2 (fun c b => R (f c) b) l m → All2 R (l.map f) m
  | [], [], _ => trivial
  | _ :: _, _ :: _, h => ⟨h.1, All2.map_left f h.2⟩
  | [], _ :: _, h => h.elim
  | _ :: _, [], h => h.elim

theorem All2.both {α β γ : Type} {R : α → β → Prop} (f : γ → α) (g : γ → β) (l : List γ) (h : ∀ x ∈ l, R (f x) (g x)) : All2 R (l.map f) (l.map g) := by
  induction l with
  | nil => trivial
  | cons x l ih => exact ⟨h x (by simp), ih fun y hy => h y (by simp [hy])⟩

/-! ## Later states -/

def Ext (env : Nat → Nat) (m : Nat) (env' : Nat → Nat) (m' : Nat) : Prop := m ≤ m' ∧ ∀ i, i < m → env' i = env i

theorem Ext.refl (env : Nat → Nat) (m : Nat) : Ext env m env m := ⟨Nat.le_refl _, fun _ _ => rfl⟩
theorem Ext.trans {e e' e'' : Nat → Nat} {m m' m'' : Nat} (h : Ext e m e' m') (h' : Ext e' m' e'' m'') : Ext e m e'' m'' :=
  ⟨Nat.le_trans h.1 h'.1, fun i hi => (h'.2 i (Nat.lt_of_lt_of_le hi h.1)).trans (h.2 i hi)⟩

theorem CV.conc_ext {env env' : Nat → Nat} {m m' : Nat} (hx : Ext env m env' m') {c : CV} (h : c.ok m) : c.conc env' = c.conc env := by
  cases c with
  | p b o => simp only [CV.conc]; rw [hx.2 b h]
  | r v => rfl

theorem CV.ok_ext {m m' : Nat} (hx : m ≤ m') {c : CV} (h : c.ok m) : c.ok m' := by
  cases c with
  | p b o => exact Nat.lt_of_lt_of_le h hx
  | r v => trivial

theorem SV.R_ext {env env' : Nat → Nat} {m m' : Nat} (hx : Ext env m env' m') {s : SV} {v : Value} (h : s.R env m v) : s.R env' m' v := by
  cases s with
  | any => trivial
  | li k n => exact h
  | si k n => exact h
  | lb b => exact h
  | sb b => exact h
  | ptr b o => exact ⟨Nat.lt_of_lt_of_le h.1 hx.1, by rw [h.2]; simp only [SV.conc]; rw [hx.2 b h.1]⟩
  | ptrS b o => exact ⟨Nat.lt_of_lt_of_le h.1 hx.1, by rw [h.2]; simp only [SV.conc]; rw [hx.2 b h.1]⟩
  | ptrR b g o => obtain ⟨⟨h1, h2⟩, rfl⟩ := h; exact ⟨⟨Nat.lt_of_lt_of_le h1 hx.1, Nat.lt_of_lt_of_le h2 hx.1⟩, by simp only [SV.conc]; rw [hx.2 b h1, hx.2 g h2]⟩
  | slice b o l c => exact ⟨⟨Nat.lt_of_lt_of_le h.1.1 hx.1, h.1.2⟩, by rw [h.2]; simp only [SV.conc]; rw [hx.2 b h.1.1]⟩
  | slx b o l => obtain ⟨h1, c, h2, h4, h3⟩ := h; exact ⟨Nat.lt_of_lt_of_le h1 hx.1, c, h2, h4, by rw [h3, hx.2 b h1]⟩
  | fn f caps =>
    refine ⟨fun c hc => CV.ok_ext hx.1 (h.1 c hc), ?_⟩
    rw [h.2]
    simp only [SV.conc]
    congr 2
    exact List.map_congr_left fun c hc => (CV.conc_ext hx (h.1 c hc)).symm
  | raw v => exact h
  | sq b g o n =>
    obtain ⟨⟨h1, h2⟩, o', h3, h4, h5, h6⟩ := h
    exact ⟨⟨Nat.lt_of_lt_of_le h1 hx.1, Nat.lt_of_lt_of_le h2 hx.1⟩, o', by rw [hx.2 g h2]; exact h3, by rw [hx.2 g h2]; exact h4, by rw [hx.2 g h2]; exact h5, by rw [hx.2 b h1, hx.2 g h2]; exact h6⟩
  | slr b g o n =>
    obtain ⟨⟨h1, h1'⟩, p, c, h2, h3, h4, h5⟩ := h
    exact ⟨⟨Nat.lt_of_lt_of_le h1 hx.1, Nat.lt_of_lt_of_le h1' hx.1⟩, p, c, h2, h3, h4, by rw [hx.2 b h1, hx.2 g h1']; exact h5⟩
  | slq b o n =>
    obtain ⟨h1, p, c, h2, h3, h4, h5⟩ := h
    exact ⟨Nat.lt_of_lt_of_le h1 hx.1, p, c, h2, h3, h4, by rw [hx.2 b h1]; exact h5⟩
  | e0 => exact h
  | st L => exact h
  | mp b => exact ⟨Nat.lt_of_lt_of_le h.1 hx.1, by rw [h.2]; simp only [SV.conc]; rw [hx.2 b h.1]⟩
  | yl b => exact ⟨Nat.lt_of_lt_of_le h.1 hx.1, by rw [h.2]; simp only [SV.conc]; rw [hx.2 b h.1]⟩

theorem TV.R_ext {env env' : Nat → Nat} {m m' : Nat} (hx : Ext env m env' m') {s : TV} {v : Value} (h : s.R env m v) : s.R env' m' v := by
  cases s with
  | one s => exact SV.R_ext hx h
  | agg l => obtain ⟨vs, h1, h2⟩ := h; exact ⟨vs, h1, h2.imp fun _ _ => SV.R_ext hx⟩

theorem AV.R_ext {env env' : Nat → Nat} {m m' : Nat} (hx : Ext env m env' m') {s : AV} {v : Value} (h : s.R env m v) : s.R env' m' v := by
  cases s with
  | one s => exact SV.R_ext hx h
  | agg l => obtain ⟨vs, h1, h2⟩ := h; exact ⟨vs, h1, h2.imp fun _ _ => SV.R_ext hx⟩
  | tup l => obtain ⟨vs, h1, h2⟩ := h; exact ⟨vs, h1, h2.imp fun _ _ => TV.R_ext hx⟩

/-! ## What is told whole has one value -/

theorem SV.R_conc {env : Nat → Nat} {m : Nat} {s : SV} {v : Value} (h : s.R env m v) (hd : s.det = true) : v = s.conc env := by
  cases s <;> first | (cases hd; done) | exact h.2

theorem SV.ok_of_R {env : Nat → Nat} {m : Nat} {s : SV} {v : Value} (h : s.R env m v) : s.ok m := by
  cases s <;> first | trivial | exact h.1

theorem SV.R_of_ok {env : Nat → Nat} {m : Nat} {s : SV} (h : s.ok m) (hd : s.det = true) : s.R env m (s.conc env) := by
  cases s <;> first | (cases hd; done) | exact ⟨h, rfl⟩

theorem SV.oneCell_of_R {env : Nat → Nat} {m : Nat} {s : SV} {v : Value} (h : s.R env m v) (hd : s ≠ .any) : v.oneCell' = true := by
  cases s with
  | any => exact absurd rfl hd
  | slx b o l => obtain ⟨_, c, _, _, rfl⟩ := h; rfl
  | sq b g o n => obtain ⟨_, o', _, _, _, rfl⟩ := h; rfl
  | slq b o n => obtain ⟨_, p, c, _, _, rfl, _⟩ := h; rfl
  | slr b g o n => obtain ⟨_, p, c, _, _, rfl, _⟩ := h; rfl
  | e0 => obtain ⟨_, p, rfl⟩ := h; rfl
  | raw x => rw [h.2]; exact h.1
  | _ => rw [h.2]; rfl

theorem all2_conc {env : Nat → Nat} {m : Nat} : ∀ {l : List SV} {vs : List Value}, All2 (SV.R env m) l vs → l.all SV.det = true → vs = l.map (SV.conc env)
  | [], [], _, _ => rfl
  | s :: l, v :: vs, h, hd => by
    simp only [List.all_cons, Bool.and_eq_true] at hd
    rw [List.map_cons, SV.R_conc h.1 hd.1, all2_conc h.2 hd.2]
  | [], _ :: _, h, _ => h.elim
  | _ :: _, [], h, _ => h.elim

theorem TV.R_conc {env : Nat → Nat} {m : Nat} {s : TV} {v : Value} (h : s.R env m v) (hd : s.det = true) : v = s.conc env := by
  cases s with
  | one s => exact SV.R_conc h hd
  | agg l => obtain ⟨vs, rfl, h2⟩ := h; rw [all2_conc h2 hd]; rfl

theorem all2_concT {env : Nat → Nat} {m : Nat} : ∀ {l : List TV} {vs : List Value}, All2 (TV.R env m) l vs → l.all TV.det = true → vs = l.map (TV.conc env)
  | [], [], _, _ => rfl
  | s :: l, v :: vs, h, hd => by
    simp only [List.all_cons, Bool.and_eq_true] at hd
    rw [List.map_cons, TV.R_conc h.1 hd.1, all2_concT h.2 hd.2]
  | [], _ :: _, h, _ => h.elim
  | _ :: _, [], h, _ => h.elim

theorem AV.R_conc {env : Nat → Nat} {m : Nat} {s : AV} {v : Value} (h : s.R env m v) (hd : s.det = true) : v = s.conc env := by
  cases s with
  | one s => exact SV.R_conc h hd
  | agg l => obtain ⟨vs, rfl, h2⟩ := h; rw [all2_conc h2 hd]; rfl
  | tup l => obtain ⟨vs, rfl, h2⟩ := h; rw [all2_concT h2 hd]; rfl

theorem AV.R_any {env : Nat → Nat} {m : Nat} {v : Value} : AV.any.R env m v := trivial

theorem AV.R_one {env : Nat → Nat} {m : Nat} {s : SV} {v : Value} : (AV.one s).R env m v ↔ s.R env m v := Iff.rfl

theorem absS_R (env : Nat → Nat) (m : Nat) (v : Value) : (absS v).R env m v := by
  cases v with
  | int k n =>
    simp only [absS]
    split
    · rename_i h; simp only [Bool.and_eq_true, decide_eq_true_eq] at h; exact ⟨h, rfl⟩
    · trivial
  | bool b => exact ⟨trivial, rfl⟩
  | agg cs => trivial
  | tuple vs => trivial
  | _ => exact ⟨rfl, rfl⟩

theorem absV_R (env : Nat → Nat) (m : Nat) (v : Value) : (absV v).R env m v := by
  cases v with
  | agg cs =>
    refine ⟨cs.toList, by simp, ?_⟩
    have h := All2.both (R := SV.R env m) absS id cs.toList (fun x _ => absS_R env m x)
    simpa using h
  | tuple vs => trivial
  | _ => exact AV.R_one.2 (absS_R env m _)

theorem CV.av_R {env : Nat → Nat} {m : Nat} {c : CV} (h : c.ok m) : c.av.R env m (c.conc env) := by
  cases c with
  | p b o => exact ⟨h, rfl⟩
  | r v => exact absV_R env m v

/-! ## States -/

/-- What the object is. -/
def LO.is (env : Nat → Nat) (m : Nat) : LO → Obj → Prop
  | .df, o => o = .deferred (some [])
  | .lp st pe tm ps as bd d, o => ∃ fn tmps, o = .loop { state := st, pending := pe, fn := fn, tmps := tmps, params := ps, assign := as, body := bd, defers := env d } ∧ d < m ∧ tmps.size = tm.sz ∧ ∀ t, (tm.get t).R env m (tmps.getD t undef)
theorem LO.is_ext {env env' : Nat → Nat} {m m' : Nat} (hx : Ext env m env' m') {x : LO} {o : Obj} (h : x.is env m o) : x.is env' m' o := by
  cases x with
  | df => exact h
  | lp st pe tm ps as bd d =>
    obtain ⟨fn, tmps, h1, h2, h3, h4⟩ := h
    exact ⟨fn, tmps, by rw [hx.2 d h2]; exact h1, Nat.lt_of_lt_of_le h2 hx.1, h3, fun t => AV.R_ext hx (h4 t)⟩
/-- A deferred call. -/
def DE.is (env : Nat → Nat) (m : Nat) : DE → Deferred → Prop
  | .mark i, d => d = { target := .collected (env i), args := #[] } ∧ i < m
  | .call g args, d => ∃ caps vals : List Value, d = { target := .fn (.func g) caps.toArray, args := vals.toArray } ∧ All2 (AV.R env m) args (vals ++ caps)
theorem DE.is_ext {env env' : Nat → Nat} {m m' : Nat} (hx : Ext env m env' m') {x : DE} {d : Deferred} (h : x.is env m d) : x.is env' m' d := by
  cases x with
  | mark i => exact ⟨by rw [hx.2 i h.2]; exact h.1, Nat.lt_of_lt_of_le h.2 hx.1⟩
  | call g args => obtain ⟨caps, vals, h1, h2⟩ := h; exact ⟨caps, vals, h1, h2.imp fun _ _ => AV.R_ext hx⟩
/-- An activation's deferred calls. -/
def Dfs (env : Nat → Nat) (m : Nat) (df : List DE) (ds : List Deferred) : Prop := All2 (DE.is env m) df ds
theorem Dfs.ext {env env' : Nat → Nat} {m m' : Nat} (hx : Ext env m env' m') {df : List DE} {ds : List Deferred} (h : Dfs env m df ds) : Dfs env' m' df ds := All2.imp (fun _ _ => DE.is_ext hx) h
theorem Dfs.nil {env : Nat → Nat} {m : Nat} : Dfs env m [] [] := trivial

def AB.wr : AB → Bool
  | .cells .. => true
  | .row .. => true
  | .seq .. => true
  | .mp .. => true
  | .fz .. => true
  | .ob _ => true
  | _ => false

def AB.R (env : Nat → Nat) (m : Nat) (B : Nat → Prop) (w : World) (b : Nat) : AB → Prop
  | .gone => True
  | .cells t l => ∃ vs : List Value, w.heap[b]? = some (.cells vs.toArray t (0, 0)) ∧ All2 (SV.R env m) l vs ∧ ¬ B b
  | .row t l => ∃ vs rest : List Value, w.heap[b]? = some (.cells (vs ++ rest).toArray t (0, 0)) ∧ All2 (SV.R env m) l vs ∧ ¬ B b
  | .ro l => ∃ (vs rest : List Value) (t : TypeId) (fr : Nat × Nat), w.heap[b]? = some (.cells (vs ++ rest).toArray t fr) ∧ All2 (SV.R env m) l vs ∧ B b
  | .seq t k L g => ∃ rest : List Value, w.heap[b]? = some (.cells (L.map (Value.int k) ++ rest).toArray t (0, 0)) ∧ L.length + rest.length = env g ∧ g < m ∧ (∀ x ∈ L, okI k x) ∧ ¬ B b
  | .rseq k L g => L = [] ∨ ∃ (front rest : List Value) (t : TypeId) (fr : Nat × Nat), w.heap[b]? = some (.cells (front ++ (L.map (Value.int k) ++ rest)).toArray t fr) ∧ (front.length = env g ∧ g < m ∧ ∀ x ∈ L, okI k x) ∧ B b
  | .mp k kv es => ∃ (ms : Array MapEntry) (clock : Nat), w.heap[b]? = some (.map ms clock) ∧ (ms.toList.map fun e => (e.key, e.val)) = (es.map fun p => (Value.int k p.1, Value.int kv p.2)) ∧ (∀ p ∈ es, okI k p.1 ∧ okI kv p.2) ∧ ¬ B b
  | .fz t l => ∃ (vs : List Value) (fr : Nat × Nat), w.heap[b]? = some (.cells vs.toArray t fr) ∧ All2 (SV.R env m) l vs ∧ ¬ B b
  | .ob x => ∃ o : Obj, w.heap[b]? = some o ∧ x.is env m o ∧ ¬ B b

/-- The package's variables hold what is listed. -/
def GDp (gd : List (Nat × List SV)) (B : Nat → Prop) (w : World) : Prop :=
  ∀ p ∈ gd, B p.1 ∧ ∃ (vs rest : List Value) (t : TypeId) (fr : Nat × Nat), w.heap[p.1]? = some (.cells (vs ++ rest).toArray t fr) ∧ All2 (SV.R (fun _ => 0) 0) p.2 vs

abbrev GD (gd : List (Nat × List SV)) (n : Nat) (w : World) : Prop := GDp gd (· < n) w

/-- What lies in the blocks of B stays as it was. -/
structure Keep (B : Nat → Prop) (w w' : World) : Prop where
  grown : Below 0 w w'
  block : ∀ k, B k → w'.heap[k]? = w.heap[k]?

theorem Keep.refl (B : Nat → Prop) (w : World) : Keep B w w := ⟨Below.refl _ _, fun _ _ => rfl⟩
theorem Keep.trans {B : Nat → Prop} {a b c : World} (h : Keep B a b) (k : Keep B b c) : Keep B a c := ⟨h.grown.trans k.grown, fun i hi => (k.block i hi).trans (h.block i hi)⟩
theorem Keep.of {B : Nat → Prop} {n : Nat} {w w' : World} (h : Below n w w') (hB : ∀ k, B k → k < n) : Keep B w w' := ⟨h.mono (Nat.zero_le _), fun k hk => h.block k (hB k hk)⟩
theorem Keep.below {n : Nat} {w w' : World} (h : Keep (· < n) w w') : Below n w w' := ⟨h.grown.os, h.grown.tape, h.grown.output, h.grown.size, h.block⟩

structure MR (C : Cfg) (B : Nat → Prop) (w0 : World) (env : Nat → Nat) (mem : Mem) (w : World) : Prop where
  below : Keep B w0 w
  base : ∀ b, B b → b < w.heap.size
  lt : ∀ i ab, mem.get i = some ab → i < mem.n
  blk : ∀ i ab, mem.get i = some ab → ab.R env mem.n B w (env i)
  sep : ∀ i j a b, mem.get i = some a → mem.get j = some b → i ≠ j → a.wr = true → b.wr = true → env i ≠ env j
  gl : ∀ p ∈ C.gl, env p.2 = p.1 ∧ p.2 < mem.n
  gd : GDp C.gd B w

structure Rel (C : Cfg) (B : Nat → Prop) (w0 : World) (env : Nat → Nat) (tm : TM) (mem : Mem) (a : Act) (w : World) : Prop where
  size : a.tmps.size = tm.sz
  tmp : ∀ t, (tm.get t).R env mem.n (a.tmps.getD t undef)
  defers : Dfs env mem.n tm.df a.defers
  mem : MR C B w0 env mem w

theorem AB.R_below {env : Nat → Nat} {m : Nat} {B : Nat → Prop} {w w' : World} {b : Nat} {ab : AB} (h : ab.R env m B w b) (hw : Below w.heap.size w w') : ab.R env m B w' b := by
  have key : ∀ o, w.heap[b]? = some o → w'.heap[b]? = some o := fun o ho => by
    have hlt : b < w.heap.size := (Array.getElem?_eq_some_iff.1 ho).1
    rw [hw.block b hlt]; exact ho
  cases ab with
  | gone => trivial
  | cells t l => obtain ⟨vs, h1, h2, h3⟩ := h; exact ⟨vs, key _ h1, h2, h3⟩
  | row t l => obtain ⟨vs, rest, h1, h2, h3⟩ := h; exact ⟨vs, rest, key _ h1, h2, h3⟩
  | ro l => obtain ⟨vs, rest, t, fr, h1, h2, h3⟩ := h; exact ⟨vs, rest, t, fr, key _ h1, h2, h3⟩
  | seq t k L g => obtain ⟨rest, h1, h2⟩ := h; exact ⟨rest, key _ h1, h2⟩
  | rseq k L g =>
    rcases h with h | ⟨front, rest, t, fr, h1, h2⟩
    · exact .inl h
    · exact .inr ⟨front, rest, t, fr, key _ h1, h2⟩
  | mp k kv es => obtain ⟨ms, c, h1, h2⟩ := h; exact ⟨ms, c, key _ h1, h2⟩
  | fz t l => obtain ⟨vs, fr, h1, h2⟩ := h; exact ⟨vs, fr, key _ h1, h2⟩
  | ob x => obtain ⟨o, h1, h2⟩ := h; exact ⟨o, key _ h1, h2⟩

theorem AB.R_ext {env env' : Nat → Nat} {m m' : Nat} {B : Nat → Prop} {w : World} {b : Nat} {ab : AB} (hx : Ext env m env' m') (h : ab.R env m B w b) : ab.R env' m' B w b := by
  cases ab with
  | gone => trivial
  | cells t l => obtain ⟨vs, h1, h2, h3⟩ := h; exact ⟨vs, h1, h2.imp fun _ _ => SV.R_ext hx, h3⟩
  | row t l => obtain ⟨vs, rest, h1, h2, h3⟩ := h; exact ⟨vs, rest, h1, h2.imp fun _ _ => SV.R_ext hx, h3⟩
  | ro l => obtain ⟨vs, rest, t, fr, h1, h2, h3⟩ := h; exact ⟨vs, rest, t, fr, h1, h2.imp fun _ _ => SV.R_ext hx, h3⟩
  | seq t k L g => obtain ⟨rest, h1, h2, h3, h4⟩ := h; exact ⟨rest, h1, by rw [hx.2 g h3]; exact h2, Nat.lt_of_lt_of_le h3 hx.1, h4⟩
  | rseq k L g =>
    rcases h with h | ⟨front, rest, t, fr, h1, ⟨h2, h3, h4⟩, h5⟩
    · exact .inl h
    · exact .inr ⟨front, rest, t, fr, h1, ⟨by rw [hx.2 g h3]; exact h2, Nat.lt_of_lt_of_le h3 hx.1, h4⟩, h5⟩
  | mp k kv es => exact h
  | fz t l => obtain ⟨vs, fr, h1, h2, h3⟩ := h; exact ⟨vs, fr, h1, h2.imp fun _ _ => SV.R_ext hx, h3⟩
  | ob x => obtain ⟨o, h1, h2, h3⟩ := h; exact ⟨o, h1, x.is_ext hx h2, h3⟩

theorem GDp.below {gd : List (Nat × List SV)} {B : Nat → Prop} {w w' : World} (h : GDp gd B w) (hw : Keep B w w') : GDp gd B w' := fun p hp => by
  obtain ⟨h1, vs, rest, t, fr, h2, h3⟩ := h p hp
  exact ⟨h1, vs, rest, t, fr, by rw [hw.block p.1 h1]; exact h2, h3⟩

/-- A call that makes memory of its own, and no more, leaves what is known. -/
theorem MR.later {C : Cfg} {B : Nat → Prop} {w0 w w' : World} {env : Nat → Nat} {mem : Mem} (h : MR C B w0 env mem w) (hw : Below w.heap.size w w') : MR C B w0 env mem w' where
  below := h.below.trans (.of hw h.base)
  base := fun b hb => Nat.lt_of_lt_of_le (h.base b hb) hw.size
  lt := h.lt
  blk := fun i ab hi => AB.R_below (h.blk i ab hi) hw
  sep := h.sep
  gl := h.gl
  gd := h.gd.below (.of hw h.base)

theorem MR.drew {C : Cfg} {B : Nat → Prop} {w0 w : World} {env : Nat → Nat} {mem : Mem} (h : MR C B w0 env mem w) : MR C B w0 env mem { w with drawn := w.drawn + 1 } :=
  h.later (Below.drew (Below.refl _ _))

/-- The others have drawn from the tape. -/
theorem MR.rely {C : Cfg} {B : Nat → Prop} {w0 w w1 : World} {env : Nat → Nat} {mem : Mem} (h : MR C B w0 env mem w) (hw : C.J.rel w w1) : MR C B w0 env mem w1 := by
  obtain ⟨d, rfl⟩ := C.J.drawn _ _ hw
  exact h.later ⟨rfl, rfl, rfl, Nat.le_refl _, fun _ _ => rfl⟩
theorem Rel.rely {C : Cfg} {B : Nat → Prop} {w0 w w1 : World} {env : Nat → Nat} {tm : TM} {mem : Mem} {a : Act} (h : Rel C B w0 env tm mem a w) (hw : C.J.rel w w1) : Rel C B w0 env tm mem a w1 := ⟨h.size, h.tmp, h.defers, h.mem.rely hw⟩

theorem ev_R {C : Cfg} {B : Nat → Prop} {w0 w : World} {env : Nat → Nat} {tm : TM} {mem : Mem} {a : Act} (h : Rel C B w0 env tm mem a w) (x : Operand) : (ev C tm x).R env mem.n (a.eval x) := by
  cases x with
  | tmp t => exact h.tmp t
  | const v => exact absV_R env mem.n v
  | func f => exact ⟨by simp [SV.ok], rfl⟩
  | global g =>
    simp only [ev]
    cases hg : assoc C.gl g with
    | none => trivial
    | some i =>
      have key : ∀ l : List (Nat × Nat), (∀ p ∈ l, env p.2 = p.1 ∧ p.2 < mem.n) → assoc l g = some i → env i = g ∧ i < mem.n := by
        intro l
        induction l with
        | nil => intro _ h; cases h
        | cons p l ih =>
          obtain ⟨k, j⟩ := p
          intro hl ha
          simp only [assoc] at ha
          cases hk : Nat.beq k g with
          | true =>
            rw [hk] at ha
            have hkg := Nat.eq_of_beq_eq_true hk
            obtain rfl := Option.some.inj ha
            have := hl (k, j) (by simp)
            exact ⟨this.1.trans hkg, this.2⟩
          | false => rw [hk] at ha; exact ih (fun p hp => hl p (by simp [hp])) ha
      obtain ⟨h1, h2⟩ := key C.gl h.mem.gl hg
      exact ⟨h2, by simp only [Act.eval, SV.conc]; rw [h1]⟩

theorem Rel.put {C : Cfg} {B : Nat → Prop} {w0 w w' : World} {env env' : Nat → Nat} {tm : TM} {mem mem' : Mem} {a : Act} {d : Option Tmp} {x : AV} {v : Value} (h : Rel C B w0 env tm mem a w)
    (hm : MR C B w0 env' mem' w') (hx : Ext env mem.n env' mem'.n) (hv : x.R env' mem'.n v) : Rel C B w0 env' (putA tm d x) mem' (a.put d v) w' := by
  cases d with
  | none => exact ⟨h.size, fun t => AV.R_ext hx (h.tmp t), h.defers.ext hx, hm⟩
  | some d =>
    simp only [putA, Act.put, TM.set]
    cases hb : Nat.blt d tm.sz with
    | false =>
      have hge : ¬ d < tm.sz := fun hlt => by
        have : Nat.blt d tm.sz = true := by simp only [Nat.blt]; exact Nat.ble_eq_true_of_le hlt
        rw [this] at hb; cases hb
      have hs : a.tmps.setIfInBounds d v = a.tmps := by
        unfold Array.setIfInBounds
        rw [dif_neg (fun hlt => hge (h.size ▸ hlt))]
      rw [hs]
      exact ⟨h.size, fun t => AV.R_ext hx (h.tmp t), h.defers.ext hx, hm⟩
    | true =>
      have hlt : d < tm.sz := by
        have : Nat.ble (d + 1) tm.sz = true := hb
        exact Nat.le_of_ble_eq_true this
      refine ⟨by simp [h.size], fun t => ?_, h.defers.ext hx, hm⟩
      simp only [TM.get]
      by_cases hdt : d = t
      · subst hdt
        have hv' : (a.tmps.setIfInBounds d v).getD d undef = v := by
          have : d < a.tmps.size := by rw [h.size]; exact hlt
          simp [this]
        rw [hv']
        cases hg : (tm.t.set d x).get d with
        | none => trivial
        | some y => rw [Tr.get_set_eq _ _ _ _ hg]; exact hv
      · rw [Tr.get_set_ne _ _ _ _ hdt]
        have hv' : (a.tmps.setIfInBounds d v).getD t undef = a.tmps.getD t undef := by
          simp [Array.getElem?_setIfInBounds_ne hdt]
        rw [hv']
        exact AV.R_ext hx (h.tmp t)

end Go.Ax
