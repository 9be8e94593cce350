/- The abstract executor is sound: what it says of a code's run holds of the code. -/
import Derived.Test.YtljchidgchjoeaaAx8n
namespace Go.Ax
open Go Go.RowKit

def FnOk (P : Program) (g : Nat) (fn : Func) : Prop := P.funcs[g]? = some fn ∧ (fn.name == "runtime.NumGoroutine") = false

/-- A summary that holds: whatever the arguments are, where its conditions hold the call returns what it says, and leaves all that was there. -/
def PSOk (C : Cfg) (g : Nat) (F : List AV → Mem → Option (List Prop × AV)) : Prop :=
  (∃ fn, FnOk C.P g fn ∧ fn.body.isSome = true) ∧ ∀ args mem r conds, F args mem = some (conds, r) → allP conds → ∀ B w0 w env vals, MR C B w0 env mem w → All2 (AV.R env mem.n) args vals →
    CallsJ C.J g vals.toArray w fun e w' => (∃ v, e = .returned v ∧ r.R env mem.n v) ∧ Below w.heap.size w w'

/-! ## Results that hold slices of their own -/

def RC.holds (w : World) (lo : Nat) : RC → Value → List Nat → Prop
  | .i k n, v, bs => v = .int k n ∧ okI k n ∧ bs = []
  | .b x, v, bs => v = .bool x ∧ bs = []
  | .s t k L, v, bs => ∃ (b o : Nat) (rest : List Value), bs = [b] ∧ lo ≤ b ∧ (o = 0 ∨ L.length + rest.length = 0) ∧ L.length + rest.length ≤ 9223372036854775807 ∧ v = .slice (some ⟨b, o, none⟩) L.length (L.length + rest.length) ∧
      w.heap[b]? = some (.cells (L.map (Value.int k) ++ rest).toArray t (0, 0)) ∧ ∀ x ∈ L, okI k x
  | .e, v, bs => (∃ p, v = .slice p 0 0) ∧ bs = []
def holdsRC (w : World) (lo : Nat) : List RC → List Value → List Nat → Prop
  | [], [], bs => bs = []
  | c :: cs, v :: vs, bs => ∃ x y, bs = x ++ y ∧ c.holds w lo v x ∧ holdsRC w lo cs vs y
  | _, _, _ => False
def RP.asm : RP → List Value → Value → Prop
  | .c _, vs, v => vs = [v]
  | .g _, vs, v => v = .agg vs.toArray
def asmRP : List RP → List Value → List Value → Prop
  | [], vs, ps => vs = [] ∧ ps = []
  | r :: rs, vs, ps => ∃ a b p qs, vs = a ++ b ∧ ps = p :: qs ∧ a.length = r.cells.length ∧ r.asm a p ∧ asmRP rs b qs
def RS.asm : RS → List Value → Value → Prop
  | .p x, vs, v => x.asm vs v
  | .t l, vs, v => ∃ ps : List Value, v = .tuple ps.toArray ∧ asmRP l vs ps
def RS.Holds (w : World) (lo : Nat) (r : RS) (v : Value) : Prop := ∃ flat bs, r.asm flat v ∧ holdsRC w lo r.cells flat bs ∧ bs.Nodup

/-- The blocks that a result brings. -/
def newRC : Nat → List RC → Nat → AB → Prop
  | _, [], _, _ => False
  | n, c :: cs, b, ab => (∃ t k L, c = .s t k L ∧ b = n ∧ ab = .seq t k L (n + 1)) ∨ newRC (n + c.wid) cs b ab

theorem newRC_le : ∀ {l : List RC} {n b : Nat} {ab : AB}, newRC n l b ab → n ≤ b ∧ b + 1 < n + widRC l
  | [], _, _, _, h => h.elim
  | c :: cs, n, b, ab, h => by
    rcases h with ⟨t, k, L, rfl, rfl, rfl⟩ | h
    · simp only [widRC, RC.wid]; omega
    · have := newRC_le h
      simp only [widRC]
      omega

theorem putRC_get : ∀ {l : List RC} {n : Nat} {t : Tr AB} {b : Nat} {ab : AB}, (putRC n t l).get b = some ab → t.get b = some ab ∨ newRC n l b ab
  | [], _, _, _, _, h => .inl h
  | c :: cs, n, t, b, ab, h => by
    rcases putRC_get (l := cs) h with h | h
    · cases c with
      | s ty k L =>
        by_cases hb : n = b
        · subst hb; exact .inr (.inl ⟨ty, k, L, rfl, rfl, Tr.get_set_eq _ _ _ _ h⟩)
        · simp only [RC.put] at h; rw [Tr.get_set_ne _ _ _ _ hb] at h; exact .inl h
      | i k x => exact .inl h
      | b x => exact .inl h
      | e => exact .inl h
    · exact .inr (.inr h)

theorem rc_env {w : World} {lo : Nat} : ∀ {l : List RC} {n : Nat} {vs : List Value} {bs : List Nat}, holdsRC w lo l vs bs → bs.Nodup →
    ∃ f : Nat → Nat, (∀ env N, (∀ b, n ≤ b → b < n + widRC l → env b = f b) → n + widRC l ≤ N → All2 (SV.R env N) (valRC n l) vs) ∧
      (∀ b ab, newRC n l b ab → f b ∈ bs ∧ lo ≤ f b ∧ ∃ (ty : TypeId) (k : IntKind) (L : List Int) (rest : List Value), ab = .seq ty k L (b + 1) ∧ w.heap[f b]? = some (.cells (L.map (Value.int k) ++ rest).toArray ty (0, 0)) ∧ L.length + rest.length = f (b + 1) ∧ ∀ x ∈ L, okI k x) ∧
      (∀ b c x y, newRC n l b x → newRC n l c y → b ≠ c → f b ≠ f c)
  | [], n, [], bs, _, _ => ⟨fun _ => 0, fun _ _ _ _ => trivial, fun _ _ h => h.elim, fun _ _ _ _ h => h.elim⟩
  | [], _, _ :: _, _, h, _ => h.elim
  | _ :: _, _, [], _, h, _ => h.elim
  | c :: cs, n, v :: vs, bs, h, hn => by
    obtain ⟨x, y, rfl, h1, h2⟩ := h
    obtain ⟨hx, hy, hxy⟩ := List.nodup_append.1 hn
    obtain ⟨f, f1, f2, f3⟩ := rc_env (n := n + c.wid) h2 hy
    have plain : c.wid = 0 → (∀ env N, (c.val n).R env N v) → (∀ t k L, c ≠ .s t k L) → x = [] → _ := fun hw hv hc he =>
      (⟨f, fun env N q hN => ⟨hv env N, f1 env N (fun b hb1 hb2 => q b (by omega) (by simp only [widRC]; omega)) (by simp only [widRC] at hN; omega)⟩, fun b ab hb => by
          rcases hb with ⟨t, k, L, e, _⟩ | hb
          · exact absurd e (hc t k L)
          · obtain ⟨q1, q2⟩ := f2 b ab hb; exact ⟨by rw [he]; exact q1, q2⟩, fun b d x y hb hd hbd => by
          rcases hb with ⟨t, k, L, e, _⟩ | hb
          · exact absurd e (hc t k L)
          · rcases hd with ⟨t, k, L, e, _⟩ | hd
            · exact absurd e (hc t k L)
            · exact f3 b d x y hb hd hbd⟩ : ∃ f : Nat → Nat, (∀ env N, (∀ b, n ≤ b → b < n + widRC (c :: cs) → env b = f b) → n + widRC (c :: cs) ≤ N → All2 (SV.R env N) (valRC n (c :: cs)) (v :: vs)) ∧
      (∀ b ab, newRC n (c :: cs) b ab → f b ∈ x ++ y ∧ lo ≤ f b ∧ ∃ (ty : TypeId) (k : IntKind) (L : List Int) (rest : List Value), ab = .seq ty k L (b + 1) ∧ w.heap[f b]? = some (.cells (L.map (Value.int k) ++ rest).toArray ty (0, 0)) ∧ L.length + rest.length = f (b + 1) ∧ ∀ x ∈ L, okI k x) ∧
      (∀ b d x y, newRC n (c :: cs) b x → newRC n (c :: cs) d y → b ≠ d → f b ≠ f d))
    cases c with
    | i k z => exact plain rfl (fun _ _ => ⟨h1.2.1, h1.1⟩) (fun _ _ _ e => by cases e) h1.2.2
    | b z => exact plain rfl (fun _ _ => ⟨trivial, h1.1⟩) (fun _ _ _ e => by cases e) h1.2
    | e => exact plain rfl (fun _ _ => ⟨trivial, h1.1⟩) (fun _ _ _ e => by cases e) h1.2
    | s t k L =>
      obtain ⟨b0, o, rest, rfl, hlo, ho, hcap, rfl, hh, hok⟩ := h1
      have ew : (RC.s t k L).wid = 2 := rfl
      have g0 : ∀ z, n + 2 ≤ z → (if z = n then b0 else if z = n + 1 then L.length + rest.length else f z) = f z := fun z hz => by rw [if_neg (by omega), if_neg (by omega)]
      refine ⟨fun z => if z = n then b0 else if z = n + 1 then L.length + rest.length else f z, fun env N q hN => ⟨?_, ?_⟩, fun b ab hb => ?_, fun b d ax ay hb hd hbd => ?_⟩
      · simp only [widRC, ew] at hN q
        have e0 := q n (by omega) (by omega)
        have e1 := q (n + 1) (by omega) (by omega)
        rw [if_pos rfl] at e0
        rw [if_neg (by omega), if_pos rfl] at e1
        refine ⟨⟨by omega, by omega⟩, o, ?_, by omega, by omega, by rw [e0, e1]; simp⟩
        rcases ho with rfl | ho
        · exact .inl rfl
        · exact .inr (by rw [e1]; exact ho)
      · simp only [widRC, ew] at hN q
        exact f1 env N (fun b hb1 hb2 => by
          have hb1 : n + 2 ≤ b := hb1
          rw [q b (by omega) (by rw [ew] at hb2; omega), g0 b hb1]) (by rw [ew]; omega)
      · rcases hb with ⟨t', k', L', e, rfl, rfl⟩ | hb
        · cases e
          exact ⟨by simp, by simpa using hlo, t, k, L, rest, rfl, by simpa using hh, by simp, hok⟩
        · have hle := (newRC_le hb).1
          have hle : n + 2 ≤ b := hle
          obtain ⟨q1, q2, q3⟩ := f2 b ab hb
          simp only [g0 b hle, g0 (b + 1) (by omega)]
          exact ⟨List.mem_append_right _ q1, q2, q3⟩
      · have key : ∀ b x, newRC (n + 2) cs b x → n + 2 ≤ b ∧ f b ∈ y := fun b x hb => ⟨(newRC_le hb).1, (f2 b x hb).1⟩
        rcases hb with ⟨t', k', L', _, rfl, _⟩ | hb <;> rcases hd with ⟨t'', k'', L'', _, rfl, _⟩ | hd
        · exact absurd rfl hbd
        · obtain ⟨q1, q2⟩ := key d _ hd
          simp only [g0 d q1, if_true]
          exact fun e => hxy b0 (by simp) (f d) q2 e
        · obtain ⟨q1, q2⟩ := key b _ hb
          simp only [g0 b q1, if_true]
          exact fun e => hxy b0 (by simp) (f b) q2 e.symm
        · simp only [g0 b (key b _ hb).1, g0 d (key d _ hd).1]
          exact f3 b d _ _ hb hd hbd

theorem valRC_append : ∀ {a b : List RC} {n : Nat}, valRC n (a ++ b) = valRC n a ++ valRC (n + widRC a) b
  | [], b, n => rfl
  | c :: a, b, n => by
    show c.val n :: valRC (n + c.wid) (a ++ b) = c.val n :: (valRC (n + c.wid) a ++ valRC (n + (c.wid + widRC a)) b)
    rw [valRC_append, Nat.add_assoc]
theorem valRC_len : ∀ {a : List RC} {n : Nat}, (valRC n a).length = a.length
  | [], _ => rfl
  | c :: a, n => by simp [valRC, valRC_len (a := a)]
theorem all2_split {α β : Type} {R : α → β → Prop} : ∀ {a b : List α} {c d : List β}, a.length = c.length → All2 R (a ++ b) (c ++ d) → All2 R a c ∧ All2 R b d
  | [], _, [], _, _, h => ⟨trivial, h⟩
  | x :: a, b, y :: c, d, hl, h => by
    obtain ⟨q1, q2⟩ := all2_split (a := a) (c := c) (by simpa using hl) h.2
    exact ⟨⟨h.1, q1⟩, q2⟩
  | [], _, _ :: _, _, hl, _ => by cases hl
  | _ :: _, _, [], _, hl, _ => by cases hl
theorem RP.asm_R {r : RP} {n : Nat} {env : Nat → Nat} {N : Nat} {vs : List Value} {v : Value} (h : r.asm vs v) (ha : All2 (SV.R env N) (valRC n r.cells) vs) : (r.val n).R env N v := by
  cases r with
  | c x => obtain rfl : vs = [v] := h; exact ha.1
  | g l => exact ⟨vs, h, ha⟩
theorem asmRP_R {env : Nat → Nat} {N : Nat} : ∀ {l : List RP} {n : Nat} {vs ps : List Value}, asmRP l vs ps → All2 (SV.R env N) (valRC n (l.flatMap RP.cells)) vs → All2 (TV.R env N) (valRP n l) ps
  | [], n, vs, ps, h, _ => by obtain ⟨_, rfl⟩ := h; trivial
  | r :: rs, n, vs, ps, h, ha => by
    obtain ⟨a, b, p, qs, rfl, rfl, hl, h1, h2⟩ := h
    rw [List.flatMap_cons, valRC_append] at ha
    obtain ⟨q1, q2⟩ := all2_split (by rw [valRC_len, hl]) ha
    exact ⟨RP.asm_R h1 q1, asmRP_R h2 q2⟩
theorem RS.asm_R {r : RS} {n : Nat} {env : Nat → Nat} {N : Nat} {vs : List Value} {v : Value} (h : r.asm vs v) (ha : All2 (SV.R env N) (valRC n r.cells) vs) : (r.val n).R env N v := by
  cases r with
  | p x =>
    cases x with
    | c x => exact RP.asm_R (r := .c x) h ha
    | g l => exact RP.asm_R (r := .g l) h ha
  | t l => obtain ⟨ps, rfl, h⟩ := h; exact ⟨ps, rfl, asmRP_R h ha⟩

/-- Memory with new blocks. -/
theorem MR.join {C : Cfg} {B : Nat → Prop} {w0 w : World} {env env' : Nat → Nat} {mem : Mem} {N : Nat} {t : Tr AB} (h : MR C B w0 env mem w) (hx : Ext env mem.n env' N) (New : Nat → Prop)
    (hget : ∀ b ab, t.get b = some ab → mem.get b = some ab ∨ (New b ∧ b < N ∧ ab.R env' N B w (env' b))) (hfresh : ∀ b, New b → ∀ i ab, mem.get i = some ab → ab.wr = true → env i ≠ env' b)
    (hinj : ∀ b c, New b → New c → b ≠ c → env' b ≠ env' c) : MR C B w0 env' ⟨N, t⟩ w := by
  refine ⟨h.below, h.base, fun i ab hi => ?_, fun i ab hi => ?_, fun i j a b hi hj hij ha hb => ?_, fun p hp => ?_, h.gd⟩
  · rcases hget i ab hi with hi | ⟨_, hi, _⟩
    · exact Nat.lt_of_lt_of_le (h.lt i ab hi) hx.1
    · exact hi
  · rcases hget i ab hi with hi | ⟨_, _, hi⟩
    · rw [hx.2 i (h.lt i ab hi)]; exact AB.R_ext hx (h.blk i ab hi)
    · exact hi
  · rcases hget i a hi with hi | ⟨ni, _, _⟩ <;> rcases hget j b hj with hj | ⟨nj, _, _⟩
    · rw [hx.2 i (h.lt i a hi), hx.2 j (h.lt j b hj)]; exact h.sep i j a b hi hj hij ha hb
    · rw [hx.2 i (h.lt i a hi)]; exact hfresh j nj i a hi ha
    · rw [hx.2 j (h.lt j b hj)]; exact (hfresh i ni j b hj hb).symm
    · exact hinj i j ni nj hij
  · obtain ⟨h1, h2⟩ := h.gl p hp
    exact ⟨by rw [hx.2 _ h2]; exact h1, Nat.lt_of_lt_of_le h2 hx.1⟩

/-- A summary that tells its result, slices of its own among it: all that was there stays. -/
def FOk (C : Cfg) (g : Nat) (F : List AV → Mem → Option (List Prop × RT)) : Prop :=
  (∃ fn, FnOk C.P g fn ∧ fn.body.isSome = true) ∧ ∀ args mem r conds, F args mem = some (conds, r) → allP conds → ∀ B w0 w env vals, MR C B w0 env mem w → All2 (AV.R env mem.n) args vals →
    CallsJ C.J g vals.toArray w fun e w' => ∃ v, e = .returned v ∧ Below w.heap.size w w' ∧ r.now.Holds w' w.heap.size v

/-- What was made goes into the caller's memory. -/
theorem MR.result {C : Cfg} {B : Nat → Prop} {w0 w w' : World} {env : Nat → Nat} {mem : Mem} (h : MR C B w0 env mem w) (hb : Below w.heap.size w w') {r : RS} {v : Value} (hr : r.Holds w' w.heap.size v) :
    ∃ env', MR C B w0 env' (r.mem mem) w' ∧ Ext env mem.n env' (r.mem mem).n ∧ (r.val mem.n).R env' (r.mem mem).n v := by
  obtain ⟨flat, bs, h1, h2, h3⟩ := hr
  obtain ⟨f, f1, f2, f3⟩ := rc_env (n := mem.n) h2 h3
  let env' : Nat → Nat := fun b => if b < mem.n then env b else f b
  have e1 : ∀ b, mem.n ≤ b → env' b = f b := fun b hb => if_neg (by omega)
  have hx : Ext env mem.n env' (mem.n + widRC r.cells) := ⟨Nat.le_add_right _ _, fun i hi => if_pos hi⟩
  refine ⟨env', MR.join (h.later hb) hx (fun b => ∃ ab, newRC mem.n r.cells b ab) (fun b ab hg => ?_) (fun b ⟨x, hx⟩ i ab hi hw => ?_) (fun b c ⟨x, hx⟩ ⟨y, hy⟩ hbc => ?_), hx, RS.asm_R h1 (f1 env' _ (fun b hb _ => e1 b hb) (Nat.le_refl _))⟩
  · rcases putRC_get hg with hg | hn
    · exact .inl hg
    · obtain ⟨hle1, hle2⟩ := newRC_le hn
      obtain ⟨_, q2, ty, k, L, rest, rfl, q3, q4, q5⟩ := f2 b ab hn
      refine .inr ⟨⟨_, hn⟩, by omega, rest, ?_, ?_, hle2, q5, fun hB => ?_⟩
      · rw [e1 b hle1]; exact q3
      · rw [e1 (b + 1) (by omega)]; exact q4
      · rw [e1 b hle1] at hB
        have := h.base _ hB
        omega
  · obtain ⟨hle1, hle2⟩ := newRC_le hx
    have := (AB.heap_lt (h.blk i ab hi) hw).1
    have := (f2 b x hx).2.1
    rw [e1 b hle1]
    omega
  · rw [e1 b (newRC_le hx).1, e1 c (newRC_le hy).1]
    exact f3 b c x y hx hy hbc

/-- The same of a summary that tells what becomes of memory. -/
def QOk (C : Cfg) (g : Nat) (F : List AV → Mem → Option (List Prop × AV × Mem)) : Prop :=
  (∃ fn, FnOk C.P g fn ∧ fn.body.isSome = true) ∧ ∀ args mem r mem' conds, F args mem = some (conds, r, mem') → allP conds → ∀ B w0 w env vals, MR C B w0 env mem w → All2 (AV.R env mem.n) args vals →
    CallsJ C.J g vals.toArray w fun e w' => ∃ v env', e = .returned v ∧ MR C B w0 env' mem' w' ∧ Ext env mem.n env' mem'.n ∧ r.R env' mem'.n v

/-- A loop's contract: from any state of the kind it comes to what is told. -/
def LoopOk (C : Cfg) (bd : Code) (F : TM → Mem → Option (List Prop × AE × TM × Mem)) : Prop :=
  ∀ tm mem ps e tm' mem', F tm mem = some (ps, e, tm', mem') → allP ps → ∀ (B : Nat → Prop) (w0 : World) (env : Nat → Nat) (a : Act) (w : World) (Q : Exit → Act → World → Prop), Rel C B w0 env tm mem a w →
    (∀ env' a' w', Rel C B w0 env' tm' mem' a' w' → Ext env mem.n env' mem'.n → Q e.conc a' w') → wpJ C.J (.loop bd) Q a w

/-- The same of a contract that tells several ways out. -/
def LoopQ (C : Cfg) (bd : Code) (F : TM → Mem → Option ((AE → TM → Mem → Out) → Out)) : Prop :=
  ∀ (K : AV → Mem → Prop) (k : AE → TM → Mem → Out) tm mem o, F tm mem = some o → (o k).sat K → ∀ (B : Nat → Prop) (w0 : World) (env : Nat → Nat) (a : Act) (w : World) (Q : Exit → Act → World → Prop), Rel C B w0 env tm mem a w →
    (∀ e tm' mem' env' a' w', (k e tm' mem').sat K → Rel C B w0 env' tm' mem' a' w' → Ext env mem.n env' mem'.n → Q e.conc a' w') → InLoopJ C.J bd Q a w

/-- A deferred function's summary. -/
def DOk (C : Cfg) (g : Nat) (F : Option Value → List AV → Mem → Option (List Prop × Mem)) : Prop :=
  (∃ fn, FnOk C.P g fn ∧ fn.body.isSome = true) ∧ ∀ pv args mem mem' conds, F pv args mem = some (conds, mem') → allP conds → ∀ B w0 w env vals, MR C B w0 env mem w → All2 (AV.R env mem.n) args vals →
    DefJ C.J g vals.toArray pv w fun w' => ∃ env', MR C B w0 env' mem' w' ∧ Ext env mem.n env' mem'.n

structure COk (C : Cfg) : Prop where
  mixed : C.P.follows .mixedOrders = true
  lvl : C.J.lvl ≤ C.lvl
  exn : ∀ p ∈ C.ex, ∀ vals, NS C.J.lvl C.P (callFunc p.1 vals)
  dcs : ∀ p ∈ C.dc, DOk C p.1 p.2
  fns : ∀ p ∈ C.fns, FnOk C.P p.1 p.2
  ps : ∀ p ∈ C.ps, PSOk C p.1 p.2
  lps : ∀ p ∈ C.lp, LoopOk C p.2.1 p.2.2
  exs : ∀ p ∈ C.ex, ExOk C.P p.1 p.2
  qsum : ∀ p ∈ C.qs, QOk C p.1 p.2
  lqs : ∀ p ∈ C.lq, LoopQ C p.2.1 p.2.2
  fsum : ∀ p ∈ C.fs, FOk C p.1 p.2

theorem sumF_mem {C : Cfg} {g : Nat} {F : List AV → Mem → Option (List Prop × RT)} (h : sumF C g = some F) : (g, F) ∈ C.fs := by
  unfold sumF at h
  split at h
  · cases h
  · exact assoc_mem h

theorem bind_sat {K : AV → Mem → Prop} {k : RS → Out} : ∀ {q : RT}, (q.bind k).sat K → (k q.now).sat K
  | .one _, h => h
  | .br true x _, h => bind_sat (q := x) (h.1 rfl)
  | .br false _ y, h => bind_sat (q := y) (h.2 rfl)

theorem needs_sat {K : AV → Mem → Prop} {ps : List Prop} {o : Out} (h : (needs ps o).sat K) : allP ps ∧ o.sat K := by
  induction ps with
  | nil => exact ⟨trivial, h⟩
  | cons p ps ih => exact ⟨⟨h.1, (ih h.2).1⟩, (ih h.2).2⟩

theorem run_callFunc {P : Program} {g : Nat} {fn : Func} {args : Array Value} {w : World} (h : FnOk P g fn) (hb : fn.body.isSome = true) : (callFunc g args).run P w = .ok (.enter g args) w := by
  have hn : fn.body.isNone = false := by cases hq : fn.body <;> simp [hq] at hb ⊢
  unfold callFunc
  simp only [Sem.run_bind, run_program, Result.andThen_ok, h.1, h.2, hn, Bool.false_eq_true, if_false, Sem.run_pure]

section
variable {C : Cfg} {B : Nat → Prop} {w0 w : World} {env : Nat → Nat} {mem : Mem} {K : AV → Mem → Prop}

/-- A slot's truth value made a literal. -/
theorem lit_R {tm : TM} {a : Act} {t : Nat} {x : Bool} (ht : ∀ t, (tm.get t).R env mem.n (a.tmps.getD t undef)) (hv : a.tmps.getD t undef = .bool x) : ∀ u, ((tm.set t (.one (.lb x))).get u).R env mem.n (a.tmps.getD u undef) := by
  intro u
  unfold TM.set
  split
  · simp only [TM.get]
    by_cases h : t = u
    · subst h
      cases hg : (tm.t.set t (.one (.lb x))).get t with
      | none => trivial
      | some y => rw [Tr.get_set_eq _ _ _ _ hg]; exact ⟨trivial, hv⟩
    · rw [Tr.get_set_ne _ _ _ _ h]; exact ht u
  · exact ht u

theorem set_sz (tm : TM) (t : Nat) (v : AV) : (tm.set t v).sz = tm.sz := by unfold TM.set; split <;> rfl
theorem set_df (tm : TM) (t : Nat) (v : AV) : (tm.set t v).df = tm.df := by unfold TM.set; split <;> rfl

/-- The ways of a guard: what holds of the frame stays. -/
theorem yielded_tuple {ops : Array Oper} {tmps : Array Value} {j : Nat} {t : Tmp} {vs : List Value} (hd : (ops[j]?).bind (·.dst) = some t) (hv : tmps.getD t undef = .tuple vs.toArray) : yielded ops tmps j = none := by
  unfold yielded
  rw [hd]
  simp only [Option.bind_some]
  cases hq : tmps[t]? with
  | none => rfl
  | some v =>
    have : tmps.getD t undef = v := by rw [Array.getD_eq_getD_getElem?, hq]; rfl
    rw [this] at hv
    subst hv
    rfl

theorem guarded_sat {ops : Array Oper} {o : Oper} {tm : TM} {yes no : TM → Out} {a : Act} (h : (guarded ops.toList o tm yes no).sat K) (ht : ∀ t, (tm.get t).R env mem.n (a.tmps.getD t undef)) :
    ∃ tm' : TM, (tm'.sz = tm.sz ∧ tm'.df = tm.df) ∧ (∀ env' m', (∀ t, (tm.get t).R env' m' (a.tmps.getD t undef)) → ∀ t, (tm'.get t).R env' m' (a.tmps.getD t undef)) ∧
      (Region.wanted o (yielded ops a.tmps) = true → (yes tm').sat K) ∧ (Region.wanted o (yielded ops a.tmps) = false → (no tm').sat K) := by
  unfold guarded at h
  unfold Region.wanted
  cases hg : o.guard with
  | none => rw [hg] at h; exact ⟨tm, ⟨rfl, rfl⟩, fun _ _ h => h, fun _ => h, (fun e => by cases e)⟩
  | some p =>
    obtain ⟨j, want⟩ := p
    rw [hg] at h
    dsimp only at h ⊢
    have hy : ∀ t b, ((ops[j]?).bind (·.dst)) = some t → ((tm.get t).bool = .l b ∨ (tm.get t).bool = .s b) → yielded ops a.tmps j = some b ∧ a.tmps.getD t undef = .bool b := fun t b hd hb => by
      have hv := bool_val hb (ht t)
      have hlt : t < a.tmps.size := by
        rcases Nat.lt_or_ge t a.tmps.size with h | h
        · exact h
        · simp [Array.getElem?_eq_none h, undef] at hv
      have hv' : a.tmps[t]? = some (.bool b) := by
        rw [Array.getElem?_eq_getElem hlt]
        congr 1
        simpa [hlt] using hv
      refine ⟨?_, hv⟩
      unfold yielded
      rw [hd]
      simp [hv']
    rw [Array.getElem?_toList] at h
    cases hd : (ops[j]?).bind (·.dst) with
    | none => rw [hd] at h; exact h.elim
    | some t =>
      rw [hd] at h
      dsimp only at h
      split at h
      · rename_i x hx
        obtain ⟨hx, _⟩ := hy t x hd (.inl hx)
        rw [hx]
        refine ⟨tm, ⟨rfl, rfl⟩, fun _ _ h => h, ?_⟩
        cases x <;> cases want <;> exact ⟨(fun e => by first | exact h | cases e), (fun e => by first | exact h | cases e)⟩
      · rename_i x hx
        obtain ⟨hx, hv⟩ := hy t x hd (.inr hx)
        rw [hx]
        cases want
        · cases x
          · exact ⟨tm.set t (.one (.lb false)), ⟨set_sz _ _ _, set_df _ _ _⟩, fun _ _ q => lit_R (mem := ⟨_, Tr.leaf⟩) q hv, fun _ => h.2 rfl, (fun e => by cases e)⟩
          · exact ⟨tm.set t (.one (.lb true)), ⟨set_sz _ _ _, set_df _ _ _⟩, fun _ _ q => lit_R (mem := ⟨_, Tr.leaf⟩) q hv, (fun e => by cases e), fun _ => h.1 rfl⟩
        · cases x
          · exact ⟨tm.set t (.one (.lb false)), ⟨set_sz _ _ _, set_df _ _ _⟩, fun _ _ q => lit_R (mem := ⟨_, Tr.leaf⟩) q hv, (fun e => by cases e), fun _ => h.2 rfl⟩
          · exact ⟨tm.set t (.one (.lb true)), ⟨set_sz _ _ _, set_df _ _ _⟩, fun _ _ q => lit_R (mem := ⟨_, Tr.leaf⟩) q hv, fun _ => h.1 rfl, (fun e => by cases e)⟩
      · split at h
        · rename_i l hl
          have hv := ht t
          rw [hl] at hv
          obtain ⟨vs, hv, _⟩ := hv
          have hy0 := yielded_tuple (j := j) hd hv
          exact ⟨tm, ⟨rfl, rfl⟩, fun _ _ h => h, (fun e => by simp [hy0] at e), fun _ => h⟩
        · exact h.elim

theorem pickB_sound {o : Oper} {tm : TM} {a : Act} {t : Bool} {x y : AV} (hr : Rel C B w0 env tm mem a w) (h : pickB C o tm = some (t, x, y)) :
    ∃ vx vy, (execOp a.eval o).run C.P w = .ok (.value (cond t vx vy)) w ∧ x.R env mem.n vx ∧ y.R env mem.n vy := by
  unfold pickB at h
  split at h
  · rename_i c xo yo ho
    split at h
    · rename_i b hb
      cases h
      have hv := bool_val (.inr hb) (ev_R hr c)
      refine ⟨a.eval xo, a.eval yo, ?_, ev_R hr xo, ev_R hr yo⟩
      unfold execOp
      simp only [ho, hv, asBool, Sem.run_bind, Sem.run_pure, Result.andThen_ok]
      cases t <;> rfl
    · cases h
  · cases h

/-- How a call ends: it returns, or panics. -/
def CE (S : Value → World → Prop) (Sp : Value → World → Prop) (e : Ending) (w : World) : Prop := (∃ v, e = .returned v ∧ S v w) ∨ ∃ v, e = .panicked [{ v, recovered := false }] ∧ Sp v w

/-- Who is called does as told. -/
def TgtOk (C : Cfg) (env : Nat → Nat) (mem : Mem) (w : World) (vals : List Value) (S Sp : Value → World → Prop) : Tgt → Prop
  | .fn g => (∃ fn, FnOk C.P g fn ∧ fn.body.isSome = true) ∧ CallsJ C.J g vals.toArray w (CE S Sp)
  | .yl l => ∃ fid tmps as bd, (Instr.yield (env l) vals.toArray).run C.P w = .ok (.round (env l) fid tmps as bd) w ∧ RoundJ C.J (env l) fid tmps as bd w (CE S Sp)

/-- A way to make calls that holds. -/
def CallOk (C : Cfg) (K : AV → Mem → Prop) (call : CallK) : Prop :=
  ∀ tgt args mem k kp, (call tgt args mem k kp).sat K → ∀ B w0 env w vals (S Sp : Value → World → Prop), MR C B w0 env mem w → All2 (AV.R env mem.n) args vals →
    (∀ r mem' env' v w', (k r mem').sat K → MR C B w0 env' mem' w' → Ext env mem.n env' mem'.n → r.R env' mem'.n v → S v w') →
    (∀ v mem' env' w', (kp v mem').sat K → MR C B w0 env' mem' w' → Ext env mem.n env' mem'.n → Sp v w') → TgtOk C env mem w vals S Sp tgt

theorem call_run {g : Nat} {caps : List CV} {f : Operand} {args : Array Operand} {ts : Array TypeId} {o : Oper} {a : Act} {fn : Func} (ho : o.op = .call { callee := .value f, args, argTypes := ts })
    (hf : a.eval f = .func (.func g) #[] (caps.map (CV.conc env)).toArray) (hfn : FnOk C.P g fn) (hb : fn.body.isSome = true) (w : World) :
    (execOp a.eval o).run C.P w = .ok (.enter g (args.toList.map a.eval ++ caps.map (CV.conc env)).toArray) w := by
  unfold execOp
  simp only [ho]
  simp only [resolve, hf, Deferred.ofValue, Sem.run_bind, Sem.run_pure, Result.andThen_ok, invoke]
  rw [run_callFunc hfn hb]
  congr 2
  apply Array.ext'
  simp

theorem call_ns {l g : Nat} {caps : List CV} {f : Operand} {args : Array Operand} {ts : Array TypeId} {o : Oper} {a : Act} (ho : o.op = .call { callee := .value f, args, argTypes := ts })
    (hf : a.eval f = .func (.func g) #[] (caps.map (CV.conc env)).toArray) (h : ∀ vals, NS l C.P (callFunc g vals)) : NS l C.P (execOp a.eval o) := by
  unfold execOp
  simp only [ho]
  simp only [resolve, hf, Deferred.ofValue]
  exact h _
theorem fn_ns {l g : Nat} {fn : Func} (hfn : FnOk C.P g fn) (hb : fn.body.isSome = true) : ∀ vals, NS l C.P (callFunc g vals) := fun _ => ns_callFunc hfn.1 hfn.2 hb

theorem yl_run {l : Nat} {f : Operand} {args : Array Operand} {ts : Array TypeId} {o : Oper} {a : Act} (ho : o.op = .call { callee := .value f, args, argTypes := ts }) (hf : a.eval f = .func (.yield l) #[] #[]) :
    execOp a.eval o = Instr.yield l (args.map a.eval) := by
  unfold execOp
  simp only [ho]
  simp only [resolve, hf, Deferred.ofValue]
  show Instr.yield l (#[] ++ args.map a.eval) = _
  rw [Array.empty_append]

/-- Where an operation is a call of a value, and pure, it is a function that the model stands in for. -/
theorem pure_callV {o : Oper} {tm : TM} {ps : List Prop} {v : AV} (hc : isCallV o = true) (h : pureOp C o tm mem = some (ps, v)) :
    ∃ f args ts g F, o.op = .call { callee := .value f, args, argTypes := ts } ∧ ev C tm f = .one (.fn g []) ∧ (g, F) ∈ C.ex := by
  unfold isCallV at hc
  split at hc
  · rename_i f args ts ho
    refine ⟨f, args, ts, ?_⟩
    unfold pureOp at h
    have h0 : pureOp0 C o tm mem = externA C (ev C tm f) (args.toList.map (ev C tm)) := by unfold pureOp0; rw [ho]
    have h1 : strOp C o tm mem = none := by unfold strOp; rw [ho]
    rw [h0, h1] at h
    unfold externA at h
    split at h
    · rename_i r1 r2 hr
      split at hr
      · cases hr
      · split at hr
        · rename_i g hg
          split at hr
          · rename_i F hF
            exact ⟨g, F, ho, hg, assoc_mem hF⟩
          · cases hr
        · cases hr
    · cases h
  · cases hc

/-- What a pure operation lists. -/
theorem pure_ns (hC : COk C) {o : Oper} {tm : TM} {a : Act} {ps : List Prop} {v : AV} (hr : Rel C B w0 env tm mem a w) (hf : opFine C tm o = true) (h : pureOp C o tm mem = some (ps, v)) (hl : 1 ≤ C.J.lvl) : NS C.J.lvl C.P (execOp a.eval o) := by
  cases hc : isCallV o with
  | false => exact opFine_ns hr hf hc hl hC.lvl
  | true =>
    obtain ⟨f, args, ts, g, F, ho, hg, hm⟩ := pure_callV hc h
    have hev := ev_R hr f
    rw [hg] at hev
    exact call_ns (env := env) (caps := []) ho hev.2 (hC.exn _ hm)

theorem pickB_callV {o : Oper} {tm : TM} {x : Bool × AV × AV} (h : pickB C o tm = some x) : isCallV o = false := by
  unfold pickB at h
  unfold isCallV
  cases ho : o.op <;> rw [ho] at h <;> first | rfl | cases h
theorem memOp_callV {o : Oper} {tm : TM} {mem : Mem} {x : List Prop × AV × Mem} (h : memOp C o tm mem = some x) : isCallV o = false := by
  cases hc : isCallV o with
  | false => rfl
  | true =>
    unfold isCallV at hc
    split at hc
    · rename_i f args ts ho
      unfold memOp memOp0 seqOp mapOp at h
      rw [ho] at h
      cases h
    · cases hc
theorem forkO_callV {o : Oper} {tm : TM} {x : Bool × List AV × Option AV} (h : forkO C o tm = some x) : isCallV o = false := by
  cases hc : isCallV o with
  | false => rfl
  | true =>
    unfold isCallV at hc
    split at hc
    · rename_i f args ts ho
      unfold forkO at h
      rw [ho] at h
      cases h
    · cases hc

theorem args_R {tm : TM} {a : Act} {caps : List CV} (hr : Rel C B w0 env tm mem a w) (hc : ∀ c ∈ caps, c.ok mem.n) (args : Array Operand) :
    All2 (AV.R env mem.n) (args.toList.map (ev C tm) ++ caps.map CV.av) (args.toList.map a.eval ++ caps.map (CV.conc env)) :=
  (evL_R hr args.toList).append (All2.both _ _ caps fun c h => CV.av_R (hc c h))

theorem plain_sound (hC : COk C) {call : CallK} (hcall : CallOk C K call) {ops : Array Oper} {o : Oper} {rest : List Oper} {tm : TM} {k : AE → TM → Mem → Out} {next : TM → AV → Mem → Out} {a : Act} {Q : Exit → Act → World → Prop} (hr : Rel C B w0 env tm mem a w) (hfine : opFine C tm o = true)
    (h : (plainOp C call o tm mem k next).sat K)
    (ih : ∀ tm' v mem' env' a' w' val, (next tm' v mem').sat K → Rel C B w0 env' tm' mem' a' w' → Ext env mem.n env' mem'.n → v.R env' mem'.n val → wpListJ C.J ops Q rest (a'.put o.dst val) w')
    (hk : ∀ e tm' mem' env' a' w', (k e tm' mem').sat K → Rel C B w0 env' tm' mem' a' w' → Ext env mem.n env' mem'.n → Q e.conc a' w') : opJ C.J o a w (wpListJ C.J ops Q rest) Q := by
  have cend : ∀ (S Sp : Value → World → Prop), (∀ v w', S v w' → wpListJ C.J ops Q rest (a.put o.dst v) w') → (∀ v w', Sp v w' → Q (.panic [{ v, recovered := false }]) a w') → ∀ e w', CE S Sp e w' → callEnd o a (wpListJ C.J ops Q rest) Q e w' := fun S Sp h1 h2 e w' he => by
    rcases he with ⟨v, rfl, hs⟩ | ⟨v, rfl, hs⟩
    · exact h1 v w' hs
    · exact h2 v w' hs
  unfold plainOp at h
  split at h
  · rename_i ps v hp
    obtain ⟨h1, h2⟩ := needs_sat h
    refine ⟨fun hl => pure_ns hC hr hfine hp hl, fun w1 hw1 => ?_⟩
    have hr := hr.rely hw1
    obtain ⟨val, hv, hR⟩ := pureOp_sound hC.exs hr hp h1
    rw [hv]
    exact ih tm v mem env a w1 val h2 hr (Ext.refl _ _) hR
  · split at h
    · rename_i ps v mem' hp
      obtain ⟨h1, h2⟩ := needs_sat h
      refine ⟨fun hl => opFine_ns hr hfine (memOp_callV hp) hl hC.lvl, fun w1 hw1 => ?_⟩
      have hr := hr.rely hw1
      obtain ⟨nx, val, w', env', hv, hnx, hm, hx, hR⟩ := memOp_sound hr hp h1
      rw [hv]
      have hgo := ih tm v mem' env' a w' val h2 ⟨hr.size, fun t => AV.R_ext hx (hr.tmp t), hr.defers.ext hx, hm⟩ hx hR
      rcases hnx with rfl | ⟨rfl, rfl⟩
      · exact hgo
      · exact hgo
    · split at h
      · rename_i f args ts ho
        split at h
        · rename_i g caps hf
          have hev := ev_R hr f
          rw [hf] at hev
          obtain ⟨hc, hfe⟩ := hev
          have key : ∀ w1, C.J.rel w w1 → TgtOk C env mem w1 (args.toList.map a.eval ++ caps.map (CV.conc env)) (fun v w' => wpListJ C.J ops Q rest (a.put o.dst v) w') (fun v w' => Q (.panic [{ v, recovered := false }]) a w') (.fn g) := fun w1 hw1 => by
            have hr := hr.rely hw1
            exact hcall _ _ _ _ _ h B w0 env w1 _ _ _ hr.mem (args_R hr hc args)
              (fun r mem' env' v w' q1 q2 q3 q4 => ih tm r mem' env' a w' v q1 ⟨hr.size, fun t => AV.R_ext q3 (hr.tmp t), hr.defers.ext q3, q2⟩ q3 q4)
              (fun v mem' env' w' q1 q2 q3 => hk (.panic v) tm mem' env' a w' q1 ⟨hr.size, fun t => AV.R_ext q3 (hr.tmp t), hr.defers.ext q3, q2⟩ q3)
          obtain ⟨⟨fn, hfn, hb⟩, _⟩ := key w (C.J.refl w)
          refine ⟨fun _ => call_ns ho hfe (fn_ns hfn hb), fun w1 hw1 => ?_⟩
          rw [call_run ho hfe hfn hb w1]
          exact (key w1 hw1).2.mono (cend _ _ (fun _ _ h => h) (fun _ _ h => h))
        · rename_i l hf
          have hev := ev_R hr f
          rw [hf] at hev
          obtain ⟨hc, hfe⟩ := hev
          have hrun := yl_run ho hfe
          refine ⟨fun _ => by rw [hrun]; exact ns_yield _ _, fun w1 hw1 => ?_⟩
          have hr := hr.rely hw1
          obtain ⟨fid, tmps, as, bd, hy, hround⟩ := hcall _ _ _ _ _ h B w0 env w1 _ (fun v w' => wpListJ C.J ops Q rest (a.put o.dst v) w') (fun v w' => Q (.panic [{ v, recovered := false }]) a w') hr.mem (evL_R hr args.toList)
            (fun r mem' env' v w' q1 q2 q3 q4 => ih tm r mem' env' a w' v q1 ⟨hr.size, fun t => AV.R_ext q3 (hr.tmp t), hr.defers.ext q3, q2⟩ q3 q4)
            (fun v mem' env' w' q1 q2 q3 => hk (.panic v) tm mem' env' a w' q1 ⟨hr.size, fun t => AV.R_ext q3 (hr.tmp t), hr.defers.ext q3, q2⟩ q3)
          rw [hrun, show args.map a.eval = (args.toList.map a.eval).toArray by (apply Array.ext'; simp), hy]
          exact hround.mono (cend _ _ (fun _ _ h => h) (fun _ _ h => h))
        · exact h.elim
      · rename_i x ho
        split at h
        · rename_i t v hq
          have hx := ev_R hr x
          rw [hq] at hx
          have he : execOp a.eval o = (do pure (.value (← goPanic (.iface t v))) : Sem Next) := by
            unfold execOp
            simp only [ho]
            rw [hx.2]
            rfl
          refine ⟨fun _ => by rw [he]; exact NS.bind (ns_goPanic _) fun _ => ns_pure _, fun w1 hw1 => ?_⟩
          rw [he]
          exact hk (.panic (.iface t v)) tm mem env a w1 h (hr.rely hw1) (Ext.refl _ _)
        · exact h.elim
      · rename_i f args ts ho
        split at h
        · rename_i g caps hf
          have hev := ev_R hr f
          rw [hf] at hev
          obtain ⟨hc, hfe⟩ := hev
          have he : execOp a.eval o = (pure (.defer { target := .fn (.func g) (caps.map (CV.conc env)).toArray, args := #[] ++ args.map a.eval }) : Sem Next) := by
            unfold execOp
            simp only [ho]
            simp only [resolve, hfe, Deferred.ofValue]
            rfl
          refine ⟨fun _ => by rw [he]; exact ns_pure _, fun w1 hw1 => ?_⟩
          rw [he]
          have hr := hr.rely hw1
          refine ih _ _ mem env { a with defers := { target := .fn (.func g) (caps.map (CV.conc env)).toArray, args := #[] ++ args.map a.eval } :: a.defers } w1 undef h ⟨hr.size, hr.tmp, ⟨⟨caps.map (CV.conc env), args.toList.map a.eval, ?_, args_R hr hc args⟩, hr.defers⟩, hr.mem⟩ (Ext.refl _ _) ⟨[], rfl, trivial⟩
          rw [Array.empty_append, show args.map a.eval = (args.toList.map a.eval).toArray by (apply Array.ext'; simp)]
        · exact h.elim
      · exact h.elim

theorem runOps_sound (hC : COk C) {call : CallK} (hcall : CallOk C K call) {ops : Array Oper} : ∀ (l : List Oper) (tm : TM) (mem : Mem) (k : AE → TM → Mem → Out), (runOps C call ops.toList l tm mem k).sat K →
    ∀ B w0 env a w (Q : Exit → Act → World → Prop), Rel C B w0 env tm mem a w →
      (∀ e tm' mem' env' a' w', (k e tm' mem').sat K → Rel C B w0 env' tm' mem' a' w' → Ext env mem.n env' mem'.n → Q e.conc a' w') → wpListJ C.J ops Q l a w
  | [], tm, mem, k, h, B, w0, env, a, w, Q, hr, hk => hk .normal tm mem env a w h hr (Ext.refl _ _)
  | o :: rest, tm, mem, k, h, B, w0, env, a, w, Q, hr, hk => by
    obtain ⟨tm1, ⟨hsz1, hdf1⟩, htm1, hyes, hno⟩ := guarded_sat (ops := ops) h hr.tmp
    have hr : Rel C B w0 env tm1 mem a w := ⟨hr.size.trans hsz1.symm, htm1 _ _ hr.tmp, by rw [hdf1]; exact hr.defers, hr.mem⟩
    unfold wpListJ
    cases hw : Region.wanted o (yielded ops a.tmps) with
    | false =>
      simp only [Bool.false_eq_true, if_false]
      have hn := hno hw
      exact runOps_sound hC hcall rest _ _ _ hn B w0 env _ w Q (hr.put hr.mem (Ext.refl _ _) ⟨[], rfl, trivial⟩) hk
    | true =>
      simp only [if_true]
      have hy := hyes hw
      split at hy
      · exact hy.elim
      rename_i hfine
      split at hy
      · rename_i t x y hp
        refine ⟨fun hl => opFine_ns hr hfine (pickB_callV hp) hl hC.lvl, fun w1 h1 => ?_⟩
        have hr := hr.rely h1
        obtain ⟨vx, vy, hv, hx, hyy⟩ := pickB_sound hr hp
        rw [hv]
        cases t with
        | true => exact runOps_sound hC hcall rest _ _ _ (hy.1 rfl) B w0 env _ w1 Q (hr.put hr.mem (Ext.refl _ _) hx) hk
        | false => exact runOps_sound hC hcall rest _ _ _ (hy.2 rfl) B w0 env _ w1 Q (hr.put hr.mem (Ext.refl _ _) hyy) hk
      have plain : (plainOp C call o tm1 mem k fun tm v mem' => runOps C call ops.toList rest (putA tm o.dst v) mem' k).sat K → opJ C.J o a w (wpListJ C.J ops Q rest) Q := fun hpl =>
        plain_sound hC hcall hr hfine hpl (fun tm' v mem' env' a' w' val q1 q2 q3 q4 => runOps_sound hC hcall rest _ _ _ q1 B w0 env' _ w' Q (q2.put q2.mem (Ext.refl _ _) q4) (fun e2 tm2 mem2 env2 a2 w2 p1 p2 p3 => hk e2 tm2 mem2 env2 a2 w2 p1 p2 (q3.trans p3))) hk
      cases hfx : forkO C o tm1 with
      | none => rw [hfx] at hy; exact plain hy
      | some fx =>
        by_cases hpl : ∀ w1, C.J.rel w w1 → ∃ val v, (execOp a.eval o).run C.P w1 = .ok (.value val) w1 ∧ v.R env mem.n val ∧ (runOps C call ops.toList rest (putA tm1 o.dst v) mem k).sat K
        · refine ⟨fun hl => opFine_ns hr hfine (forkO_callV hfx) hl hC.lvl, fun w1 h1 => ?_⟩
          obtain ⟨val, v, hv, hR, hgo⟩ := hpl w1 h1
          rw [hv]
          have hr := hr.rely h1
          exact runOps_sound hC hcall rest _ _ _ hgo B w0 env _ w1 Q (hr.put hr.mem (Ext.refl _ _) hR) hk
        · exact plain (Classical.byContradiction fun hcon => hpl fun w1 h1 => (forked_sat (hr.rely h1) hy).resolve_right hcon)

end
end Go.Ax
