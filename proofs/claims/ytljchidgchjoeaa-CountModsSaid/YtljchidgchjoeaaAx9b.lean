/- The abstract executor is sound: regions whose order is open. -/
import Derived.Test.YtljchidgchjoeaaAx9
namespace Go.Ax
open Go Go.RowKit

section
variable {C : Cfg} {B : Nat → Prop} {w0 : World} {K : AV → Mem → Prop}

/-! ## Values that speak of the first blocks alone -/

theorem CV.lt_ok {n : Nat} {c : CV} (h : c.lt n = true) : c.ok n := by
  cases c with
  | p b o => exact Nat.le_of_ble_eq_true h
  | r v => trivial

theorem CV.lt_conc {env env0 : Nat → Nat} {n : Nat} {c : CV} (h : c.lt n = true) (he : ∀ b, b < n → env b = env0 b) : c.conc env = c.conc env0 := by
  cases c with
  | p b o => simp only [CV.conc]; rw [he b (CV.lt_ok h)]
  | r v => rfl

theorem SV.R_lt {env env0 : Nat → Nat} {n m : Nat} (he : ∀ b, b < n → env b = env0 b) {s : SV} {v : Value} (h : s.R env m v) (hl : s.lt n = true) : s.R env0 n v := by
  have hb : ∀ b, Nat.blt b n = true → b < n ∧ env b = env0 b := fun b q => ⟨Nat.le_of_ble_eq_true q, he b (Nat.le_of_ble_eq_true q)⟩
  cases s with
  | any => trivial
  | li k x => exact h
  | si k x => exact h
  | lb x => exact h
  | sb x => exact h
  | raw x => exact h
  | ptr b o => obtain ⟨q1, q2⟩ := hb b hl; obtain ⟨_, rfl⟩ := h; exact ⟨q1, by simp only [SV.conc, q2]⟩
  | ptrS b o => obtain ⟨q1, q2⟩ := hb b hl; obtain ⟨_, rfl⟩ := h; exact ⟨q1, by simp only [SV.conc, q2]⟩
  | slice b o l c => obtain ⟨q1, q2⟩ := hb b hl; obtain ⟨h1, rfl⟩ := h; exact ⟨⟨q1, h1.2⟩, by simp only [SV.conc, q2]⟩
  | slx b o l => obtain ⟨q1, q2⟩ := hb b hl; obtain ⟨_, c, h1, h2, rfl⟩ := h; exact ⟨q1, c, h1, h2, by rw [q2]⟩
  | fn f caps =>
    obtain ⟨_, rfl⟩ := h
    have hc : ∀ c ∈ caps, c.lt n = true := List.all_eq_true.1 hl
    refine ⟨fun c hm => CV.lt_ok (hc c hm), ?_⟩
    simp only [SV.conc]
    rw [List.map_congr_left fun c hm => CV.lt_conc (hc c hm) he]

theorem all2_lt {env env0 : Nat → Nat} {n m : Nat} (he : ∀ b, b < n → env b = env0 b) : ∀ {l : List SV} {vs : List Value}, All2 (SV.R env m) l vs → l.all (SV.lt n) = true → All2 (SV.R env0 n) l vs
  | [], [], _, _ => trivial
  | s :: l, v :: vs, h, hl => by
    simp only [List.all_cons, Bool.and_eq_true] at hl
    exact ⟨SV.R_lt he h.1 hl.1, all2_lt he h.2 hl.2⟩
  | [], _ :: _, h, _ => h.elim
  | _ :: _, [], h, _ => h.elim

theorem TV.R_lt {env env0 : Nat → Nat} {n m : Nat} (he : ∀ b, b < n → env b = env0 b) {s : TV} {v : Value} (h : s.R env m v) (hl : s.lt n = true) : s.R env0 n v := by
  cases s with
  | one s => exact SV.R_lt he h hl
  | agg l => obtain ⟨vs, rfl, h2⟩ := h; exact ⟨vs, rfl, all2_lt he h2 hl⟩

theorem all2_ltT {env env0 : Nat → Nat} {n m : Nat} (he : ∀ b, b < n → env b = env0 b) : ∀ {l : List TV} {vs : List Value}, All2 (TV.R env m) l vs → l.all (TV.lt n) = true → All2 (TV.R env0 n) l vs
  | [], [], _, _ => trivial
  | s :: l, v :: vs, h, hl => by
    simp only [List.all_cons, Bool.and_eq_true] at hl
    exact ⟨TV.R_lt he h.1 hl.1, all2_ltT he h.2 hl.2⟩
  | [], _ :: _, h, _ => h.elim
  | _ :: _, [], h, _ => h.elim

theorem AV.R_lt {env env0 : Nat → Nat} {n m : Nat} (he : ∀ b, b < n → env b = env0 b) {s : AV} {v : Value} (h : s.R env m v) (hl : s.lt n = true) : s.R env0 n v := by
  cases s with
  | one s => exact SV.R_lt he h hl
  | agg l => obtain ⟨vs, rfl, h2⟩ := h; exact ⟨vs, rfl, all2_lt he h2 hl⟩
  | tup l => obtain ⟨vs, rfl, h2⟩ := h; exact ⟨vs, rfl, all2_ltT he h2 hl⟩

/-! ## What is known of the slots, by the operations that have been carried out -/

/-- What an operation comes to: a value; or a new block. -/
structure Rc where
  v : AV
  blk : Option (TypeId × List SV)

def dstOf (ops : Array Oper) (i : Nat) : Option Tmp := (ops[i]?).bind (·.dst)

def Rc.ok (env0 : Nat → Nat) (n0 : Nat) (env : Nat → Nat) (i : Nat) (r : Rc) (v : Value) : Prop :=
  match r.blk with
  | none => r.v.R env0 n0 v
  | some _ => v = .pointer (some ⟨env (n0 + i), 0, none⟩)

/-- The slot t holds what the last one of the operations that are carried out has put there. -/
def slot (ops : Array Oper) (env0 : Nat → Nat) (n0 : Nat) (tm0 : TM) (D : Nat → Bool) (env : Nat → Nat) (t : Tmp) (v : Value) : List Rc → Prop
  | [] => (tm0.get t).R env0 n0 v
  | r :: rs => (D rs.length = true → dstOf ops rs.length = some t → r.ok env0 n0 env rs.length v) ∧ (¬(D rs.length = true ∧ dstOf ops rs.length = some t) → slot ops env0 n0 tm0 D env t v rs)

def rat : List Rc → Nat → Option Rc
  | [], _ => none
  | r :: rs, i => if i = rs.length then some r else rat rs i

theorem rat_lt : ∀ {rs : List Rc} {i : Nat} {r : Rc}, rat rs i = some r → i < rs.length
  | q :: rs, i, r, h => by
    simp only [rat] at h
    split at h
    · simp only [List.length_cons]; omega
    · have := rat_lt h; simp only [List.length_cons]; omega

section
variable {ops : Array Oper} {env0 : Nat → Nat} {n0 : Nat} {tm0 : TM} {D D' : Nat → Bool} {env env' : Nat → Nat} {t : Tmp} {v : Value}

theorem slot_same : ∀ {rs : List Rc}, (∀ j, j < rs.length → dstOf ops j = some t → D j = D' j) → (∀ j r b, rat rs j = some r → D j = true → r.blk = some b → env' (n0 + j) = env (n0 + j)) →
    slot ops env0 n0 tm0 D env t v rs → slot ops env0 n0 tm0 D' env' t v rs
  | [], _, _, h => h
  | r :: rs, hd, he, h => by
    have hlow : ∀ j r' b, rat rs j = some r' → D j = true → r'.blk = some b → env' (n0 + j) = env (n0 + j) := fun j r' b hj hD hb => by
      refine he j r' b ?_ hD hb
      have := rat_lt hj
      simp only [rat, if_neg (show j ≠ rs.length by omega)]
      exact hj
    refine ⟨fun h1 h2 => ?_, fun hn => ?_⟩
    · have hD : D rs.length = true := by rw [hd rs.length (by simp) h2]; exact h1
      have := h.1 hD h2
      cases hb : r.blk with
      | none => simpa only [Rc.ok, hb] using this
      | some b =>
        simp only [Rc.ok, hb] at this ⊢
        rw [he rs.length r b (by simp [rat]) hD hb]
        exact this
    · refine slot_same (fun j hj => hd j (by simp only [List.length_cons]; omega)) hlow (h.2 fun hq => hn ⟨?_, hq.2⟩)
      rw [← hd rs.length (by simp) hq.2]; exact hq.1

/-- The later ones have not written the slot. -/
theorem slot_drop : ∀ {new rs : List Rc}, (∀ j, rs.length ≤ j → j < (new ++ rs).length → dstOf ops j = some t → D j = false) → slot ops env0 n0 tm0 D env t v (new ++ rs) → slot ops env0 n0 tm0 D env t v rs
  | [], _, _, h => h
  | r :: new, rs, hd, h => by
    refine slot_drop (fun j h1 h2 => hd j h1 (by simp only [List.cons_append, List.length_cons]; omega)) (h.2 fun hq => ?_)
    have := hd (new ++ rs).length (by simp) (by simp) hq.2
    exact Bool.noConfusion (hq.1.symm.trans this)

theorem slot_add : ∀ {new rs : List Rc}, (∀ j, rs.length ≤ j → j < (new ++ rs).length → dstOf ops j = some t → D j = false) → slot ops env0 n0 tm0 D env t v rs → slot ops env0 n0 tm0 D env t v (new ++ rs)
  | [], _, _, h => h
  | r :: new, rs, hd, h => by
    refine ⟨fun h1 h2 => ?_, fun _ => slot_add (fun j h1 h2 => hd j h1 (by simp only [List.cons_append, List.length_cons]; omega)) h⟩
    have := hd (new ++ rs).length (by simp) (by simp) h2
    exact Bool.noConfusion (h1.symm.trans this)

theorem rat_app : ∀ {new rs : List Rc} {i : Nat}, i < rs.length → rat (new ++ rs) i = rat rs i
  | [], _, _, _ => rfl
  | r :: new, rs, i, h => by
    show (if i = (new ++ rs).length then some r else rat (new ++ rs) i) = _
    rw [if_neg (by simp only [List.length_append]; omega)]
    exact rat_app h

/-- The record at a place, and what stands below. -/
theorem rat_split : ∀ {rs : List Rc} {i : Nat}, i < rs.length → ∃ post r pre, rs = post ++ r :: pre ∧ pre.length = i ∧ rat rs i = some r
  | r :: rs, i, h => by
    by_cases hi : i = rs.length
    · exact ⟨[], r, rs, rfl, hi.symm, by simp [rat, hi]⟩
    · simp only [List.length_cons] at h
      obtain ⟨post, r', pre, h1, h2, h3⟩ := rat_split (rs := rs) (i := i) (by omega)
      exact ⟨r :: post, r', pre, by rw [h1]; rfl, h2, by simp only [rat, if_neg hi]; exact h3⟩
end

/-! ## Memory -/

theorem MR.widen {env env' : Nat → Nat} {mem : Mem} {w : World} {N : Nat} (h : MR C B w0 env mem w) (he : ∀ b, b < mem.n → env' b = env b) (hN : mem.n ≤ N) : MR C B w0 env' ⟨N, mem.t⟩ w := by
  have hx : Ext env mem.n env' N := ⟨hN, he⟩
  refine ⟨h.below, h.base, fun i ab hi => Nat.lt_of_lt_of_le (h.lt i ab hi) hN, fun i ab hi => ?_, fun i j a b hi hj hij ha hb => ?_, fun p hp => ?_, h.gd⟩
  · rw [he i (h.lt i ab hi)]
    exact AB.R_ext hx (h.blk i ab hi)
  · rw [he i (h.lt i a hi), he j (h.lt j b hj)]
    exact h.sep i j a b hi hj hij ha hb
  · obtain ⟨h1, h2⟩ := h.gl p hp
    exact ⟨by rw [he _ h2]; exact h1, Nat.lt_of_lt_of_le h2 hN⟩

theorem only_get {tm : TM} : ∀ {l : List Nat} {t : Nat} {x : AV}, (tm.only l).get t = some x → t ∈ l ∧ tm.get t = x
  | [], t, x, h => by simp only [TM.only] at h; rw [Tr.get_mk] at h; cases h
  | u :: l, t, x, h => by
    simp only [TM.only] at h
    split at h
    · rename_i v hv
      by_cases hut : u = t
      · subst hut
        rw [Tr.get_set_eq _ _ _ _ h]
        exact ⟨List.mem_cons_self .., by simp only [TM.get, hv]⟩
      · rw [Tr.get_set_ne _ _ _ _ hut] at h
        obtain ⟨q1, q2⟩ := only_get h
        exact ⟨List.mem_cons_of_mem _ q1, q2⟩
    · obtain ⟨q1, q2⟩ := only_get h
      exact ⟨List.mem_cons_of_mem _ q1, q2⟩

theorem makeOp_sound {o : Oper} {env : Nat → Nat} {tm : TM} {mem : Mem} {a : Act} {w : World} {t : TypeId} {cs : List SV} (hr : Rel C B w0 env tm mem a w) (h : makeOp C o tm = some (t, cs)) :
    ∃ vs : List Value, All2 (SV.R env mem.n) cs vs ∧ (execOp a.eval o).run C.P w = .ok (.value (.pointer (some ⟨w.heap.size, 0, none⟩))) (w.alloc (.cells vs.toArray t)) := by
  unfold makeOp at h
  unfold execOp
  split at h
  · rename_i t' ho
    simp only [ho]
    split at h
    · rename_i z hz
      cases h
      obtain ⟨zv, h1, h2⟩ := zeroA_R (P := C.P) (w := w) (env := env) (m := mem.n) hz
      exact ⟨_, h2, by simp [Instr.alloc, h1, newVar, newRow]⟩
    · cases h
  · rename_i t' x ho
    simp only [ho]
    split at h
    · rename_i cs' hcs
      cases h
      exact ⟨_, cellsA_R hcs (ev_R hr x), by simp [Instr.box, newVar, newRow]⟩
    · cases h
  · cases h

/-! ## The run, and what each operation comes to -/

theorem wpOp_value {P : Program} {ops : Array Oper} {Q : Exit → Act → World → Prop} {Kq : Act → World → Prop} {i : Nat} {o : Oper} {v : Value} {a : Act} {w w' : World} (hi : ops[i]? = some o) (hw : Region.wanted o (yielded ops a.tmps) = true)
    (hv : (execOp a.eval o).run P w = .ok (.value v) w') (h : Kq (a.put o.dst v) w') : wpOp P ops Q i Kq a w := by
  unfold wpOp
  simp only [hi, hw, if_true]
  exact .inl (by simp only [Oper.wp, hv, Oper.upon]; exact h)

theorem wpOp_call {P : Program} {ops : Array Oper} {Q : Exit → Act → World → Prop} {Kq : Act → World → Prop} {i : Nat} {o : Oper} {f : Nat} {args : Array Value} {a : Act} {w w' : World} (hi : ops[i]? = some o) (hw : Region.wanted o (yielded ops a.tmps) = true)
    (hv : (execOp a.eval o).run P w = .ok (.enter f args) w') (h : Calls P f args w' fun e w'' => ∃ v, e = .returned v ∧ Kq (a.put o.dst v) w'') : wpOp P ops Q i Kq a w := by
  unfold wpOp
  simp only [hi, hw, if_true]
  refine .inl ?_
  simp only [Oper.wp, hv, Oper.upon]
  exact h.mono fun e w'' ⟨v, he, hK⟩ => by subst he; exact hK

theorem wpOp_skip {P : Program} {ops : Array Oper} {Q : Exit → Act → World → Prop} {Kq : Act → World → Prop} {i : Nat} {o : Oper} {a : Act} {w : World} (hi : ops[i]? = some o) (hw : Region.wanted o (yielded ops a.tmps) = false)
    (h : Kq (a.put o.dst undef) w) : wpOp P ops Q i Kq a w := by
  unfold wpOp
  simp only [hi, hw, Bool.false_eq_true, if_false]
  exact h

/-- Whether an operation is wanted is known; the guard's slot is a literal from there on. -/
theorem guarded_known {ops : Array Oper} {o : Oper} {tm : TM} {yes no : TM → Out} (h : (guarded ops.toList o tm yes no).sat K) :
    ∃ (tm' : TM) (b : Bool), tm'.sz = tm.sz ∧ (∀ t env m v, (tm.get t).R env m v → (tm'.get t).R env m v) ∧ (match b with | true => (yes tm').sat K | false => (no tm').sat K) ∧
      ∀ env m (a : Act), (∀ t ∈ o.looksAt ops, (tm.get t).R env m (a.tmps.getD t undef)) → Region.wanted o (yielded ops a.tmps) = b := by
  unfold guarded at h
  unfold Region.wanted
  cases hg : o.guard with
  | none => rw [hg] at h; exact ⟨tm, true, rfl, fun _ _ _ _ h => h, h, fun _ _ _ _ => rfl⟩
  | some p =>
    obtain ⟨j, want⟩ := p
    rw [hg] at h
    dsimp only at h ⊢
    rw [Array.getElem?_toList] at h
    cases hd : (ops[j]?).bind (·.dst) with
    | none => rw [hd] at h; exact h.elim
    | some t =>
      rw [hd] at h
      dsimp only at h
      have hlook : t ∈ o.looksAt ops := by simp [Oper.looksAt, hg, hd]
      have hy : ∀ b, ((tm.get t).bool = .l b ∨ (tm.get t).bool = .s b) → ∀ env m (a : Act), (∀ t ∈ o.looksAt ops, (tm.get t).R env m (a.tmps.getD t undef)) → yielded ops a.tmps j = some b := fun b hb env m a ht => by
        have hv := bool_val hb (ht t hlook)
        have hlt : t < a.tmps.size := by
          rcases Nat.lt_or_ge t a.tmps.size with h | h
          · exact h
          · simp [Array.getElem?_eq_none h, undef] at hv
        have hv' : a.tmps[t]? = some (.bool b) := by
          rw [Array.getElem?_eq_getElem hlt]
          congr 1
          simpa [hlt] using hv
        unfold yielded
        rw [hd]
        simp [hv']
      have hlit : ∀ x, (tm.get t).bool = .s x → ∀ u env m v, (tm.get u).R env m v → ((tm.set t (.one (.lb x))).get u).R env m v := fun x hx u env m v hv => by
        unfold TM.set
        split
        · simp only [TM.get]
          by_cases htu : t = u
          · subst htu
            cases hq : (tm.t.set t (.one (.lb x))).get t with
            | none => trivial
            | some y => rw [Tr.get_set_eq _ _ _ _ hq]; exact ⟨trivial, bool_val (.inr hx) hv⟩
          · rw [Tr.get_set_ne _ _ _ _ htu]; exact hv
        · exact hv
      cases hb : (tm.get t).bool with
      | no =>
        rw [hb] at h
        dsimp only at h
        split at h
        · rename_i l hl
          refine ⟨tm, false, rfl, fun _ _ _ _ h => h, h, fun env m a ht => ?_⟩
          have hv := ht t hlook
          rw [hl] at hv
          obtain ⟨vs, hv, _⟩ := hv
          rw [yielded_tuple (j := j) hd hv]
          rfl
        · exact h.elim
      | l x =>
        rw [hb] at h
        dsimp only at h
        refine ⟨tm, x == want, rfl, fun _ _ _ _ h => h, ?_, fun env m a ht => ?_⟩
        · cases hq : (x == want) <;> rw [hq] at h <;> exact h
        · rw [hy x (.inl hb) env m a ht]
          cases x <;> cases want <;> rfl
      | s x =>
        rw [hb] at h
        dsimp only at h
        cases want with
        | true =>
          dsimp only at h
          cases x with
          | true => exact ⟨tm.set t (.one (.lb true)), true, set_sz _ _ _, hlit _ hb, h.1 rfl, fun env m a ht => by rw [hy true (.inr hb) env m a ht]; rfl⟩
          | false => exact ⟨tm.set t (.one (.lb false)), false, set_sz _ _ _, hlit _ hb, h.2 rfl, fun env m a ht => by rw [hy false (.inr hb) env m a ht]; rfl⟩
        | false =>
          dsimp only at h
          cases x with
          | true => exact ⟨tm.set t (.one (.lb true)), false, set_sz _ _ _, hlit _ hb, h.1 rfl, fun env m a ht => by rw [hy true (.inr hb) env m a ht]; rfl⟩
          | false => exact ⟨tm.set t (.one (.lb false)), true, set_sz _ _ _, hlit _ hb, h.2 rfl, fun env m a ht => by rw [hy false (.inr hb) env m a ht]; rfl⟩

/-- What an operation comes to, wherever it stands. -/
def Fact (C : Cfg) (B : Nat → Prop) (w0 : World) (ops : Array Oper) (env0 : Nat → Nat) (mem0 : Mem) (tm0 : TM) (i : Nat) (o : Oper) (r : Rc) (pre : List Rc) : Prop :=
  ∀ (Q : Exit → Act → World → Prop) (env : Nat → Nat) (a : Act) (w : World), (∀ b, b < mem0.n → env b = env0 b) → MR C B w0 env0 mem0 w → a.tmps.size = tm0.sz → a.defers = [] →
    (∀ t ∈ o.looksAt ops, slot ops env0 mem0.n tm0 (fun _ => true) env t (a.tmps.getD t undef) pre) →
    match r.blk with
    | none => ∀ Kq : Act → World → Prop, (∀ val w', r.v.R env0 mem0.n val → Below w.heap.size w w' → Kq (a.put o.dst val) w') → wpOp C.P ops Q i Kq a w
    | some (t, cs) => ∀ Kq : Act → World → Prop, (∀ vs : List Value, All2 (SV.R env0 mem0.n) cs vs → Kq (a.put o.dst (.pointer (some ⟨w.heap.size, 0, none⟩))) (w.alloc (.cells vs.toArray t))) → wpOp C.P ops Q i Kq a w

/-- The slots, and the blocks, as the run has them behind the operations of rs. -/
structure Known (ops : Array Oper) (env0 : Nat → Nat) (mem0 : Mem) (tm0 : TM) (N : Nat) (rs : List Rc) (tm : TM) (mem : Mem) : Prop where
  sz : tm.sz = tm0.sz
  slots : ∀ env t v, (∀ b, b < mem0.n → env b = env0 b) → slot ops env0 mem0.n tm0 (fun _ => true) env t v rs → (tm.get t).R env N v
  n : mem.n = N
  blks : ∀ b ab, mem.get b = some ab → mem0.get b = some ab ∨ ∃ j r t cs, b = mem0.n + j ∧ rat rs j = some r ∧ r.blk = some (t, cs) ∧ ab = .cells t cs ∧ b < N

theorem Known.put {ops : Array Oper} {env0 : Nat → Nat} {mem0 : Mem} {tm0 : TM} {N : Nat} {rs : List Rc} {tm : TM} {mem : Mem} {o : Oper} {x : AV} (h : Known ops env0 mem0 tm0 N rs tm mem) (ho : ops[rs.length]? = some o) (hin : inSz tm o.dst = true)
    (r : Rc) {mem' : Mem} (hx : ∀ env v, (∀ b, b < mem0.n → env b = env0 b) → r.ok env0 mem0.n env rs.length v → x.R env N v) (hn : mem'.n = N)
    (hm : ∀ b ab, mem'.get b = some ab → mem.get b = some ab ∨ ∃ t cs, b = mem0.n + rs.length ∧ r.blk = some (t, cs) ∧ ab = .cells t cs ∧ b < N) : Known ops env0 mem0 tm0 N (r :: rs) (putA tm o.dst x) mem' := by
  have hdst : dstOf ops rs.length = o.dst := by simp [dstOf, ho]
  refine ⟨?_, fun env t v he hs => ?_, hn, fun b ab hb => ?_⟩
  · unfold putA
    split
    · rw [set_sz]; exact h.sz
    · exact h.sz
  · by_cases ht : o.dst = some t
    · have := hs.1 rfl (hdst.trans ht)
      rw [ht]
      simp only [putA]
      unfold TM.set
      split
      · simp only [TM.get]
        cases hq : (tm.t.set t x).get t with
        | none => trivial
        | some y => rw [Tr.get_set_eq _ _ _ _ hq]; exact hx env v he this
      · rename_i hb
        rw [ht] at hin
        simp only [inSz] at hin
        rw [hin] at hb
        cases hb
    · have hs' := hs.2 fun q => ht (hdst.symm.trans q.2)
      have := h.slots env t v he hs'
      unfold putA
      split
      · rename_i d hd
        unfold TM.set
        split
        · simp only [TM.get]
          rw [Tr.get_set_ne _ _ _ _ (fun e => ht (by rw [hd, e]))]
          exact this
        · exact this
      · exact this
  · rcases hm b ab hb with h1 | ⟨t, cs, h1, h2, h3⟩
    · rcases h.blks b ab h1 with h2 | ⟨j, r', t, cs, h2, h3, h4⟩
      · exact .inl h2
      · refine .inr ⟨j, r', t, cs, h2, ?_, h4⟩
        have := rat_lt h3
        simp only [rat, if_neg (show j ≠ rs.length by omega)]
        exact h3
    · exact .inr ⟨rs.length, r, t, cs, h1, by simp [rat], h2, h3⟩

theorem Known.refine {ops : Array Oper} {env0 : Nat → Nat} {mem0 : Mem} {tm0 : TM} {N : Nat} {rs : List Rc} {tm tm' : TM} {mem : Mem} (h : Known ops env0 mem0 tm0 N rs tm mem) (hs : tm'.sz = tm.sz)
    (ht : ∀ t env m v, (tm.get t).R env m v → (tm'.get t).R env m v) : Known ops env0 mem0 tm0 N rs tm' mem :=
  ⟨hs.trans h.sz, fun env t v he q => ht t env N v (h.slots env t v he q), h.n, h.blks⟩

theorem openRun_facts (hC : COk C) {ops : Array Oper} {env0 : Nat → Nat} {mem0 : Mem} {tm0 : TM} {n d : Nat} {k : TM → Mem → Out} : ∀ (l : List Oper) (i : Nat) (tm : TM) (mem : Mem) (rs : List Rc), rs.length = i → i + l.length = n →
    (∀ j, j < l.length → l[j]? = ops[i + j]?) → (openRun C ops mem0.n ⟨mem0.n + d, mem0.t⟩ l i tm mem k).sat K → Known ops env0 mem0 tm0 (mem0.n + d) rs tm mem →
    ∃ new tmE memE, (k tmE memE).sat K ∧ (new ++ rs).length = n ∧ Known ops env0 mem0 tm0 (mem0.n + d) (new ++ rs) tmE memE ∧
      ∀ post r pre, new ++ rs = post ++ r :: pre → rs.length ≤ pre.length → ∃ o, ops[pre.length]? = some o ∧ (∀ t, o.dst = some t → t < tm0.sz) ∧ Fact C B w0 ops env0 mem0 tm0 pre.length o r pre
  | [], i, tm, mem, rs, hi, hn, _, h, hk => by
    refine ⟨[], tm, mem, h, by simpa [hi] using hn, hk, fun post r pre he hle => ?_⟩
    have := congrArg List.length he
    simp only [List.nil_append, List.length_append, List.length_cons] at this
    omega
  | o :: rest, i, tm, mem, rs, hi, hn, hl, h, hk => by
    subst hi
    have ho : ops[rs.length]? = some o := by simpa using (hl 0 (by simp)).symm
    simp only [openRun] at h
    split at h
    · exact h.elim
    rename_i hin
    obtain ⟨tm1, b, hsz1, href, hb, hwant⟩ := guarded_known h
    have hk1 := hk.refine hsz1 href
    have hin1 : inSz tm1 o.dst = true := by
      cases hd : o.dst with
      | none => rfl
      | some d => rw [hd] at hin; simp only [inSz, hsz1] at hin ⊢; exact hin
    have hin0 : ∀ t, o.dst = some t → t < tm0.sz := fun t ht => by
      rw [ht] at hin
      simp only [inSz, hk.sz] at hin
      exact Nat.le_of_ble_eq_true hin
    have next : ∀ (r : Rc) (x : AV) (mem' : Mem), (openRun C ops mem0.n ⟨mem0.n + d, mem0.t⟩ rest (rs.length + 1) (putA tm1 o.dst x) mem' k).sat K →
        (∀ env v, (∀ b, b < mem0.n → env b = env0 b) → r.ok env0 mem0.n env rs.length v → x.R env (mem0.n + d) v) → mem'.n = mem0.n + d →
        (∀ b ab, mem'.get b = some ab → mem.get b = some ab ∨ ∃ t cs, b = mem0.n + rs.length ∧ r.blk = some (t, cs) ∧ ab = .cells t cs ∧ b < mem0.n + d) →
        Fact C B w0 ops env0 mem0 tm0 rs.length o r rs →
        ∃ new tmE memE, (k tmE memE).sat K ∧ (new ++ rs).length = n ∧ Known ops env0 mem0 tm0 (mem0.n + d) (new ++ rs) tmE memE ∧
          ∀ post r pre, new ++ rs = post ++ r :: pre → rs.length ≤ pre.length → ∃ o, ops[pre.length]? = some o ∧ (∀ t, o.dst = some t → t < tm0.sz) ∧ Fact C B w0 ops env0 mem0 tm0 pre.length o r pre := by
      intro r x mem' h' hx hn' hm hf
      obtain ⟨new, tmE, memE, q1, q2, q3, q4⟩ := openRun_facts (n := n) hC rest (rs.length + 1) _ mem' (r :: rs) rfl (by simp only [List.length_cons] at hn; omega)
        (fun j hj => by have := hl (j + 1) (by simp only [List.length_cons]; omega); simpa [Nat.add_assoc, Nat.add_comm 1 j] using this) h' (hk1.put ho hin1 r hx hn' hm)
      have e : new ++ r :: rs = (new ++ [r]) ++ rs := by simp
      rw [e] at q2 q3 q4
      refine ⟨new ++ [r], tmE, memE, q1, q2, q3, fun post r' pre he hle => ?_⟩
      by_cases hlt : (r :: rs).length ≤ pre.length
      · exact q4 post r' pre he hlt
      · have hlen : pre.length = rs.length := by simp only [List.length_cons] at hlt; omega
        have hinj := List.append_inj_right' (s₁ := new ++ [r]) (s₂ := post ++ [r']) (t₁ := rs) (t₂ := pre) (by simpa using he) hlen.symm
        have hinj2 := List.append_inj_left' (s₁ := new ++ [r]) (s₂ := post ++ [r']) (t₁ := rs) (t₂ := pre) (by simpa using he) hlen.symm
        have hr : r = r' := by
          have := congrArg List.getLast? hinj2
          simpa using this
        subst hinj; subst hr
        exact ⟨o, ho, hin0, hf⟩
    -- the frame, as far as the operation looks at it
    have view : ∀ (env : Nat → Nat) (a : Act) (w : World), (∀ b, b < mem0.n → env b = env0 b) → MR C B w0 env0 mem0 w → a.tmps.size = tm0.sz → a.defers = [] →
        (∀ t ∈ o.looksAt ops, slot ops env0 mem0.n tm0 (fun _ => true) env t (a.tmps.getD t undef) rs) →
        Rel C B w0 env ⟨tm1.sz, tm1.only (o.looksAt ops)⟩ ⟨mem0.n + d, mem0.t⟩ a w := fun env a w he hm hs hd hsl => by
      refine ⟨hs.trans hk1.sz.symm, fun t => ?_, hd, hm.widen he (Nat.le_add_right _ _)⟩
      show AV.R env (mem0.n + d) (match (tm1.only (o.looksAt ops)).get t with | some v => v | none => .any) _
      cases hq : (tm1.only (o.looksAt ops)).get t with
      | none => trivial
      | some x =>
        obtain ⟨h1, h2⟩ := only_get hq
        subst h2
        exact hk1.slots env t _ he (hsl t h1)
    have wants : ∀ (env : Nat → Nat) (a : Act), (∀ b, b < mem0.n → env b = env0 b) → (∀ t ∈ o.looksAt ops, slot ops env0 mem0.n tm0 (fun _ => true) env t (a.tmps.getD t undef) rs) →
        Region.wanted o (yielded ops a.tmps) = b := fun env a he hsl => hwant env (mem0.n + d) a fun t ht => hk.slots env t _ he (hsl t ht)
    have wide : ∀ {x : AV} {env : Nat → Nat} {v : Value}, (∀ b, b < mem0.n → env b = env0 b) → x.R env0 mem0.n v → x.R env (mem0.n + d) v := fun he hv => AV.R_ext ⟨Nat.le_add_right _ _, he⟩ hv
    cases b with
    | false =>
      refine next ⟨.tup [], none⟩ (.tup []) mem hb (fun env v he hv => wide he hv) hk.n (fun b ab q => .inl q) fun Q env a w he hm hs hd hsl => ?_
      intro Kq hK
      exact wpOp_skip ho (wants env a he hsl) (hK undef w ⟨[], rfl, trivial⟩ (Below.refl _ _))
    | true =>
      dsimp only at hb
      split at hb
      · rename_i t x y hp
        split at hb
        · rename_i hlt
          simp only [Bool.and_eq_true] at hlt
          cases t with
          | true =>
            refine next ⟨x, none⟩ x mem (hb.1 rfl) (fun env v he hv => wide he hv) hk.n (fun b ab q => .inl q) fun Q env a w he hm hs hd hsl => ?_
            intro Kq hK
            obtain ⟨vx, vy, hv, hx, _⟩ := pickB_sound (view env a w he hm hs hd hsl) hp
            exact wpOp_value ho (wants env a he hsl) hv (hK _ w (AV.R_lt he hx hlt.1) (Below.refl _ _))
          | false =>
            refine next ⟨y, none⟩ y mem (hb.2 rfl) (fun env v he hv => wide he hv) hk.n (fun b ab q => .inl q) fun Q env a w he hm hs hd hsl => ?_
            intro Kq hK
            obtain ⟨vx, vy, hv, _, hy⟩ := pickB_sound (view env a w he hm hs hd hsl) hp
            exact wpOp_value ho (wants env a he hsl) hv (hK _ w (AV.R_lt he hy hlt.2) (Below.refl _ _))
        · exact hb.elim
      · split at hb
        · rename_i ps v hp
          split at hb
          · rename_i hlt
            obtain ⟨h1, h2⟩ := needs_sat hb
            refine next ⟨v, none⟩ v mem h2 (fun env v he hv => wide he hv) hk.n (fun b ab q => .inl q) fun Q env a w he hm hs hd hsl => ?_
            intro Kq hK
            obtain ⟨val, hv, hR⟩ := pureOp_sound hC.exs (view env a w he hm hs hd hsl) hp h1
            exact wpOp_value ho (wants env a he hsl) hv (hK _ w (AV.R_lt he hR hlt) (Below.refl _ _))
          · exact hb.elim
        · split at hb
          · rename_i t cs hp
            split at hb
            · rename_i hlt
              simp only [Bool.and_eq_true] at hlt
              obtain ⟨hlt, hwd⟩ := hlt
              have hwd : mem0.n + rs.length < mem0.n + d := Nat.le_of_ble_eq_true hwd
              refine next ⟨.any, some (t, cs)⟩ _ _ hb (fun env v he hv => ?_) hk.n (fun b ab q => ?_) fun Q env a w he hm hs hd hsl => ?_
              · simp only [Rc.ok] at hv
                subst hv
                exact ⟨hwd, rfl⟩
              · by_cases hbe : b = mem0.n + rs.length
                · subst hbe
                  exact .inr ⟨t, cs, rfl, rfl, Tr.get_set_eq _ _ _ _ q, hwd⟩
                · simp only [Mem.get, Mem.set] at q
                  rw [Tr.get_set_ne _ _ _ _ (Ne.symm hbe)] at q
                  exact .inl q
              · intro Kq hK
                obtain ⟨vs, h1, h2⟩ := makeOp_sound (view env a w he hm hs hd hsl) hp
                exact wpOp_value ho (wants env a he hsl) h2 (hK vs (all2_lt he h1 hlt))
            · exact hb.elim
          · split at hb
            · rename_i f args ts hop
              split at hb
              · rename_i g caps hf
                split at hb
                · rename_i F hF
                  split at hb
                  · rename_i ps v hp
                    split at hb
                    · rename_i hlt
                      obtain ⟨h1, h2⟩ := needs_sat hb
                      refine next ⟨v, none⟩ v mem h2 (fun env v he hv => wide he hv) hk.n (fun b ab q => .inl q) fun Q env a w he hm hs hd hsl => ?_
                      intro Kq hK
                      have hr := view env a w he hm hs hd hsl
                      obtain ⟨⟨fn, hfn, hbo⟩, hsum⟩ := hC.ps _ (assoc_mem hF)
                      have hev := ev_R hr f
                      rw [hf] at hev
                      obtain ⟨hc, hfe⟩ := hev
                      refine wpOp_call ho (wants env a he hsl) (call_run hop hfe hfn hbo w) ?_
                      exact (hsum _ _ v ps hp h1 B w0 w env _ hr.mem (args_R hr hc args)).mono fun e w' ⟨⟨z, hz, hR⟩, hbl⟩ => ⟨z, hz, hK z w' (AV.R_lt he hR hlt) hbl⟩
                    · exact hb.elim
                  · exact hb.elim
                · exact hb.elim
              · exact hb.elim
            · exact hb.elim

/-! ## The region -/

theorem openB_le {ops : Array Oper} {n : Nat} (h : openB ops n = true) : n ≤ ops.size := by
  unfold openB at h
  split at h
  · rename_i he; exact Nat.le_of_eq (Nat.eq_of_beq_eq_true he)
  · simp only [Region.lexTailB, Bool.and_eq_true, decide_eq_true_eq] at h
    exact Nat.le_of_lt h.1.1.1.2

theorem put_get {a : Act} {d : Option Tmp} {v : Value} {t : Tmp} (h : d ≠ some t) : (a.put d v).tmps.getD t undef = a.tmps.getD t undef := by
  cases d with
  | none => rfl
  | some d =>
    have : d ≠ t := fun e => h (by rw [e])
    simp [Act.put, Array.getElem?_setIfInBounds_ne this]

theorem put_get_eq {a : Act} {v : Value} {t : Tmp} (h : t < a.tmps.size) : (a.put (some t) v).tmps.getD t undef = v := by
  simp [Act.put, h]

theorem put_size {a : Act} {d : Option Tmp} {v : Value} : (a.put d v).tmps.size = a.tmps.size := by
  cases d <;> simp [Act.put]

theorem put_defers' {a : Act} {d : Option Tmp} {v : Value} : (a.put d v).defers = a.defers := by
  cases d <;> rfl

/-- What is known while the operations are carried out. -/
structure During (C : Cfg) (B : Nat → Prop) (w0 : World) (ops : Array Oper) (env0 : Nat → Nat) (mem0 : Mem) (tm0 : TM) (hs0 : Nat) (R : List Rc) (env : Nat → Nat) (listed : Array Bool) (a : Act) (w : World) : Prop where
  ag : ∀ b, b < mem0.n → env b = env0 b
  lsz : listed.size = ops.size
  mr : MR C B w0 env0 mem0 w
  sz : a.tmps.size = tm0.sz
  defers : a.defers = []
  grown : hs0 ≤ w.heap.size
  slots : ∀ t, slot ops env0 mem0.n tm0 (fun j => listed.getD j false) env t (a.tmps.getD t undef) R
  made : ∀ i r t cs, rat R i = some r → listed.getD i false = true → r.blk = some (t, cs) →
    ∃ vs : List Value, w.heap[env (mem0.n + i)]? = some (.cells vs.toArray t (0, 0)) ∧ All2 (SV.R env0 mem0.n) cs vs ∧ hs0 ≤ env (mem0.n + i)
  apart : ∀ i j ri rj bi bj, rat R i = some ri → rat R j = some rj → listed.getD i false = true → listed.getD j false = true → i ≠ j → ri.blk = some bi → rj.blk = some bj → env (mem0.n + i) ≠ env (mem0.n + j)

theorem During.step {ops : Array Oper} {env0 : Nat → Nat} {mem0 : Mem} {tm0 : TM} {hs0 n : Nat} {R : List Rc} {Q : Exit → Act → World → Prop} (hlen : R.length = n) (hpw : PW .any ops n)
    (hfacts : ∀ post r pre, R = post ++ r :: pre → ∃ o, ops[pre.length]? = some o ∧ (∀ t, o.dst = some t → t < tm0.sz) ∧ Fact C B w0 ops env0 mem0 tm0 pre.length o r pre)
    {listed : Array Bool} {i : Nat} {a : Act} {w : World} (inv : HeadInv .any ops n listed) (hi : i ∈ Region.ready .any ops listed) (hin : i < n) (h : ∃ env, During C B w0 ops env0 mem0 tm0 hs0 R env listed a w) :
    wpOp C.P ops Q i (fun a' w' => ∃ env, During C B w0 ops env0 mem0 tm0 hs0 R env (listed.setIfInBounds i true) a' w') a w := by
  obtain ⟨env, h⟩ := h
  obtain ⟨hun, o', ho', hall⟩ := mem_ready.1 hi
  obtain ⟨post, r, pre, hR, hpre, hrat⟩ := rat_split (rs := R) (i := i) (by omega)
  obtain ⟨o, ho, hdin, hf⟩ := hfacts post r pre hR
  subst hpre
  obtain rfl : o' = o := Option.some.inj (ho'.symm.trans ho)
  have hunf : listed.getD pre.length false = false := getD_both hun
  have hD : ∀ j, listed.getD j false = true → j < ops.size := fun j hj => by
    rcases Nat.lt_or_ge j listed.size with h1 | h1
    · rw [← inv.size]; exact h1
    · simp [Array.getElem?_eq_none h1] at hj
  have hpsz : pre.length < ops.size := (Array.getElem?_eq_some_iff.1 ho).1
  -- later operations that touch what this one touches are not yet listed
  have later : ∀ j oj, pre.length < j → ops[j]? = some oj → o'.apart ops oj = false → listed.getD j false = false := fun j oj hj hoj hap => by
    rcases hpw pre.length hin j o' oj hj ho hoj with ⟨e, he, hb, hon⟩ | h1
    · cases hl : listed.getD j false with
      | false => rfl
      | true =>
        have := inv.closed j oj hoj hl e he hb
        rw [hon, hunf] at this
        cases this
    · rw [hap] at h1; cases h1
  have earlier : ∀ j oj, j < pre.length → ops[j]? = some oj → oj.apart ops o' = false → listed.getD j false = true := fun j oj hj hoj hap => by
    rcases hpw j (by omega) pre.length oj o' hj hoj ho with ⟨e, he, hb, hon⟩ | h1
    · have := hall e he hb
      rw [hon] at this
      exact this
    · rw [hap] at h1; cases h1
  have getop : ∀ j t, dstOf ops j = some t → ∃ oj, ops[j]? = some oj ∧ oj.dst = some t := fun j t hj => by
    unfold dstOf at hj
    exact Option.bind_eq_some_iff.1 hj
  have notap : ∀ {x y : Oper}, (x.apart ops y = true → False) → x.apart ops y = false := fun {x y} hh => by
    cases hq : x.apart ops y with
    | false => rfl
    | true => exact (hh hq).elim
  have look : ∀ t ∈ o'.looksAt ops, slot ops env0 mem0.n tm0 (fun _ => true) env t (a.tmps.getD t undef) pre := fun t ht => by
    have h1 := h.slots t
    rw [hR, show post ++ r :: pre = (post ++ [r]) ++ pre by simp] at h1
    have h2 := slot_drop (fun j hj1 hj2 hd => ?_) h1
    · refine slot_same (fun j hj hd => ?_) (fun _ _ _ _ _ _ => rfl) h2
      obtain ⟨oj, hoj, hdj⟩ := getop j t hd
      exact earlier j oj hj hoj (notap fun hap => (Oper.apart_spec hap).1 t hdj ht)
    · obtain ⟨oj, hoj, hdj⟩ := getop j t hd
      by_cases hje : j = pre.length
      · rw [hje]; exact hunf
      · exact later j oj (by omega) hoj (notap fun hap => (Oper.apart_spec hap).2.2 t hdj ht)
  have self : (listed.setIfInBounds pre.length true).getD pre.length false = true := getD_set_self false hun
  have other : ∀ j, j ≠ pre.length → (listed.setIfInBounds pre.length true).getD j false = listed.getD j false := fun j hj => getD_set_ne false (Ne.symm hj)
  -- the slots behind the operation
  have slots' : ∀ (env' : Nat → Nat) (v : Value), (∀ j, j ≠ pre.length → env' (mem0.n + j) = env (mem0.n + j)) → r.ok env0 mem0.n env' pre.length v →
      ∀ t, slot ops env0 mem0.n tm0 (fun j => (listed.setIfInBounds pre.length true).getD j false) env' t ((a.put o'.dst v).tmps.getD t undef) R := fun env' v he hok t => by
    have hdst : dstOf ops pre.length = o'.dst := by simp [dstOf, ho]
    by_cases ht : o'.dst = some t
    · rw [ht, put_get_eq (by rw [h.sz]; exact hdin t ht), hR]
      refine slot_add (fun j hj1 hj2 hd => ?_) ⟨fun _ _ => hok, fun hn => absurd ⟨self, hdst.trans ht⟩ hn⟩
      obtain ⟨oj, hoj, hdj⟩ := getop j t hd
      simp only [List.length_cons] at hj1
      show (listed.setIfInBounds pre.length true).getD j false = false
      rw [other j (by omega)]
      exact later j oj (by omega) hoj (notap fun hap => (Oper.apart_spec hap).2.1 t ht hdj)
    · rw [put_get ht]
      refine slot_same (fun j _ hd => ?_) (fun j _ _ _ hDj _ => ?_) (h.slots t)
      · exact (other j (fun e => ht (by rw [← hdst, ← e, hd]))).symm
      · exact he j (fun e => by rw [e] at hDj; rw [hunf] at hDj; cases hDj)
  have hw : ∀ w', Below w.heap.size w w' → ∀ k x, w.heap[k]? = some x → w'.heap[k]? = some x := fun w' hb k x hx => by
    rw [hb.block k (lt_of_heap hx)]; exact hx
  have hf := hf Q env a w h.ag h.mr h.sz h.defers look
  split at hf
  · rename_i hblk
    refine hf _ fun val w' hv hb => ⟨env, h.ag, by simp [h.lsz], h.mr.later hb, by rw [put_size]; exact h.sz, by rw [put_defers']; exact h.defers, Nat.le_trans h.grown hb.size, ?_, ?_, ?_⟩
    · exact slots' env val (fun _ _ => rfl) (by simp only [Rc.ok, hblk]; exact hv)
    · intro j r' t cs hj hl hb'
      by_cases hje : j = pre.length
      · subst hje
        obtain rfl : r = r' := Option.some.inj (hrat.symm.trans hj)
        rw [hblk] at hb'
        cases hb'
      · rw [other j hje] at hl
        obtain ⟨vs, h1, h2, h3⟩ := h.made j r' t cs hj hl hb'
        exact ⟨vs, hw w' hb _ _ h1, h2, h3⟩
    · intro j k rj rk bj bk hj hk hlj hlk hjk hbj hbk
      by_cases hje : j = pre.length
      · subst hje
        obtain rfl : r = rj := Option.some.inj (hrat.symm.trans hj)
        rw [hblk] at hbj
        cases hbj
      · by_cases hke : k = pre.length
        · subst hke
          obtain rfl : r = rk := Option.some.inj (hrat.symm.trans hk)
          rw [hblk] at hbk
          cases hbk
        · rw [other j hje] at hlj
          rw [other k hke] at hlk
          exact h.apart j k rj rk bj bk hj hk hlj hlk hjk hbj hbk
  · rename_i t cs hblk
    refine hf _ fun vs hvs => ?_
    have hb : Below w.heap.size w (w.alloc (.cells vs.toArray t)) := (Below.refl _ _).alloc (Nat.le_refl _) _
    let env' : Nat → Nat := fun b => if b = mem0.n + pre.length then w.heap.size else env b
    have e1 : env' (mem0.n + pre.length) = w.heap.size := if_pos rfl
    have e2 : ∀ j, j ≠ pre.length → env' (mem0.n + j) = env (mem0.n + j) := fun j hj => if_neg (by omega)
    refine ⟨env', fun b hb => ?_, by simp [h.lsz], h.mr.later hb, by rw [put_size]; exact h.sz, by rw [put_defers']; exact h.defers, Nat.le_trans h.grown hb.size, ?_, ?_, ?_⟩
    · show (if b = mem0.n + pre.length then w.heap.size else env b) = env0 b
      rw [if_neg (by omega)]
      exact h.ag b hb
    · exact slots' env' _ e2 (by simp only [Rc.ok, hblk]; rw [e1])
    · intro j r' t' cs' hj hl hb'
      by_cases hje : j = pre.length
      · subst hje
        obtain rfl : r = r' := Option.some.inj (hrat.symm.trans hj)
        rw [hblk] at hb'
        cases hb'
        rw [e1]
        exact ⟨vs, heap_alloc_new w _, hvs, h.grown⟩
      · rw [other j hje] at hl
        rw [e2 j hje]
        obtain ⟨vs', h1, h2, h3⟩ := h.made j r' t' cs' hj hl hb'
        exact ⟨vs', hw _ hb _ _ h1, h2, h3⟩
    · intro j k rj rk bj bk hj hk hlj hlk hjk hbj hbk
      have old : ∀ j rj bj, rat R j = some rj → (listed.setIfInBounds pre.length true).getD j false = true → rj.blk = some bj → j ≠ pre.length → env (mem0.n + j) < w.heap.size := fun j rj bj hj hlj hbj hje => by
        rw [other j hje] at hlj
        obtain ⟨vs', h1, _, _⟩ := h.made j rj bj.1 bj.2 hj hlj hbj
        exact lt_of_heap h1
      by_cases hje : j = pre.length
      · have hke : k ≠ pre.length := fun e => hjk (hje.trans e.symm)
        have := old k rk bk hk hlk hbk hke
        rw [hje, e1, e2 k hke]
        omega
      · by_cases hke : k = pre.length
        · have := old j rj bj hj hlj hbj hje
          rw [hke, e1, e2 j hje]
          omega
        · rw [e2 j hje, e2 k hke]
          rw [other j hje] at hlj
          rw [other k hke] at hlk
          exact h.apart j k rj rk bj bk hj hk hlj hlk hjk hbj hbk

theorem open_sound (hC : COk C) {ops : Array Oper} {n id d : Nat} (hB : openB ops n = true) {Q : Exit → Act → World → Prop} {a : Act} {w : World} {env : Nat → Nat} {tm : TM} {mem : Mem} (hr : Rel C B w0 env tm mem a w) {k : TM → Mem → Out}
    (h : (openRun C ops mem.n ⟨mem.n + d, mem.t⟩ (ops.toList.take n) 0 tm ⟨mem.n + d, mem.t⟩ k).sat K)
    (hk : ∀ tm' mem' env' a' w', (k tm' mem').sat K → Rel C B w0 env' tm' mem' a' w' → Ext env mem.n env' mem'.n → wpList C.P ops Q (ops.toList.drop n) a' w') : (Code.region id ops true).wp C.P Q a w := by
  have hle := openB_le hB
  have hmr : MR C B w0 env mem { w with drawn := w.drawn + 1 } := hr.mem.drew
  have hl : (ops.toList.take n).length = n := by simp; omega
  have k0 : Known ops env mem tm (mem.n + d) [] tm ⟨mem.n + d, mem.t⟩ := by
    refine ⟨rfl, fun env' t v he hs => ?_, rfl, fun b ab hb => .inl hb⟩
    exact AV.R_ext ⟨Nat.le_add_right _ _, he⟩ hs
  obtain ⟨R, tmE, memE, q1, q2, q3, q4⟩ := openRun_facts (B := B) (w0 := w0) (n := n) hC (ops.toList.take n) 0 tm _ [] rfl (by rw [hl]; omega)
    (fun j hj => by rw [hl] at hj; simp [hj]) h k0
  rw [List.append_nil] at q2 q3 q4
  refine wp_region_open (n := n) (J := fun listed a w' => ∃ env', During C B w0 ops env mem tm w.heap.size R env' listed a w') hC.mixed hB ?_ (fun _ hpw listed i a' w' inv hi hin hJ =>
    During.step q2 hpw (fun post r pre he => q4 post r pre he (Nat.zero_le _)) inv hi hin hJ) ?_
  · refine ⟨env, fun _ _ => rfl, by simp, hmr, hr.size, hr.defers, Nat.le_refl _, fun t => ?_, fun i r t cs _ hl => ?_, fun i j ri rj bi bj _ _ hl => ?_⟩
    · have h1 := hr.tmp t
      have : slot ops env mem.n tm (fun j => (Array.replicate ops.size false).getD j false) env t (a.tmps.getD t undef) (R ++ []) :=
        slot_add (fun j _ _ _ => getD_replicate_false _ _) h1
      rwa [List.append_nil] at this
    · rw [getD_replicate_false] at hl; cases hl
    · rw [getD_replicate_false] at hl; cases hl
  · intro listed a' w' hall ⟨env', hd⟩
    have hmr0 := hr.mem
    have allD : ∀ i r, rat R i = some r → listed.getD i false = true := fun i r hi => by
      have hlt := rat_lt hi
      have h1 := hall i (by omega)
      have hin : i < listed.size := by rw [hd.lsz]; omega
      simpa [hin] using h1
    have hx : Ext env mem.n env' (mem.n + d) := ⟨Nat.le_add_right _ _, hd.ag⟩
    refine hk tmE memE env' a' w' q1 ⟨hd.sz.trans q3.sz.symm, fun t => ?_, hd.defers, ?_⟩ (by rw [q3.n]; exact hx)
    · rw [q3.n]
      refine q3.slots env' t _ hd.ag (slot_same (fun j hj _ => ?_) (fun _ _ _ _ _ _ => rfl) (hd.slots t))
      obtain ⟨_, r, _, _, _, hrat⟩ := rat_split hj
      exact allD j r hrat
    · have hheap : ∀ i ab, mem.get i = some ab → ab.wr = true → env i < w.heap.size := fun i ab hi hwr => (AB.heap_lt (hmr0.blk i ab hi) hwr).1
      refine ⟨hd.mr.below, hd.mr.base, fun b ab hb => ?_, fun b ab hb => ?_, fun i j x y hi hj hij hx' hy' => ?_, fun p hp => ?_, hd.mr.gd⟩
      · rw [q3.n]
        rcases q3.blks b ab hb with h1 | ⟨j, r, t, cs, rfl, _, _, _, h5⟩
        · have := hmr0.lt b ab h1; omega
        · exact h5
      · rw [q3.n]
        rcases q3.blks b ab hb with h1 | ⟨j, r, t, cs, rfl, h2, h3, rfl, _⟩
        · rw [hd.ag b (hmr0.lt b ab h1)]
          exact AB.R_ext hx (hd.mr.blk b ab h1)
        · obtain ⟨vs, h4, h5, h6⟩ := hd.made j r t cs h2 (allD j r h2) h3
          exact ⟨vs, h4, h5.imp fun _ _ => SV.R_ext hx, fun hB => by have := hmr0.base _ hB; omega⟩
      · rcases q3.blks i x hi with h1 | ⟨k1, r1, t1, cs1, rfl, h2, h3, rfl, _⟩
        · rcases q3.blks j y hj with h1' | ⟨k2, r2, t2, cs2, rfl, h2', h3', rfl, _⟩
          · rw [hd.ag i (hmr0.lt i x h1), hd.ag j (hmr0.lt j y h1')]
            exact hmr0.sep i j x y h1 h1' hij hx' hy'
          · obtain ⟨vs, _, _, h6⟩ := hd.made k2 r2 t2 cs2 h2' (allD k2 r2 h2') h3'
            have := hheap i x h1 hx'
            rw [hd.ag i (hmr0.lt i x h1)]
            omega
        · obtain ⟨vs, _, _, h6⟩ := hd.made k1 r1 t1 cs1 h2 (allD k1 r1 h2) h3
          rcases q3.blks j y hj with h1' | ⟨k2, r2, t2, cs2, rfl, h2', h3', rfl, _⟩
          · have := hheap j y h1' hy'
            rw [hd.ag j (hmr0.lt j y h1')]
            omega
          · exact hd.apart k1 k2 r1 r2 _ _ h2 h2' (allD k1 r1 h2) (allD k2 r2 h2') (by intro e; exact hij (by rw [e])) h3 h3'
      · obtain ⟨h1, h2⟩ := hmr0.gl p hp
        rw [q3.n]
        exact ⟨by rw [hd.ag _ h2]; exact h1, by omega⟩

end
end Go.Ax
