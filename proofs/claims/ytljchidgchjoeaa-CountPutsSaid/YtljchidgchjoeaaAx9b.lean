/- The abstract executor is sound: regions whose order is open. -/
import Derived.Test.YtljchidgchjoeaaAx9
namespace Go.Ax
open Go Go.RowKit

section
variable {C : Cfg} {B : Nat → Prop} {w0 : World} {K : AV → Mem → Prop}

/-! ## Values that speak of the first blocks alone -/

theorem CV.lt_ok {n : Nat} {c : CV} (h : c.lt n = true) : c.ok n := by
  cases c with
  | p b o => exact Nat.le_of_ble_eq_true h
  | r v => trivial

theorem CV.lt_conc {env env0 : Nat → Nat} {n : Nat} {c : CV} (h : c.lt n = true) (he : ∀ b, b < n → env b = env0 b) : c.conc env = c.conc env0 := by
  cases c with
  | p b o => simp only [CV.conc]; rw [he b (CV.lt_ok h)]
  | r v => rfl

theorem SV.R_lt {env env0 : Nat → Nat} {n m : Nat} (he : ∀ b, b < n → env b = env0 b) {s : SV} {v : Value} (h : s.R env m v) (hl : s.lt n = true) : s.R env0 n v := by
  have hb : ∀ b, Nat.blt b n = true → b < n ∧ env b = env0 b := fun b q => ⟨Nat.le_of_ble_eq_true q, he b (Nat.le_of_ble_eq_true q)⟩
  cases s with
  | any => trivial
  | li k x => exact h
  | si k x => exact h
  | lb x => exact h
  | sb x => exact h
  | raw x => exact h
  | ptr b o => obtain ⟨q1, q2⟩ := hb b hl; obtain ⟨_, rfl⟩ := h; exact ⟨q1, by simp only [SV.conc, q2]⟩
  | ptrS b o => obtain ⟨q1, q2⟩ := hb b hl; obtain ⟨_, rfl⟩ := h; exact ⟨q1, by simp only [SV.conc, q2]⟩
  | slice b o l c => obtain ⟨q1, q2⟩ := hb b hl; obtain ⟨h1, rfl⟩ := h; exact ⟨⟨q1, h1.2⟩, by simp only [SV.conc, q2]⟩
  | slx b o l => obtain ⟨q1, q2⟩ := hb b hl; obtain ⟨_, c, h1, h2, rfl⟩ := h; exact ⟨q1, c, h1, h2, by rw [q2]⟩
  | sq b g o l =>
    have hl : (Nat.blt b n && Nat.blt g n) = true := hl
    simp only [Bool.and_eq_true] at hl
    obtain ⟨q1, q2⟩ := hb b hl.1
    obtain ⟨q3, q4⟩ := hb g hl.2
    obtain ⟨_, o', h1, h2, h3, rfl⟩ := h
    rw [q4] at h1 h2 h3
    exact ⟨⟨q1, q3⟩, o', h1, h2, h3, by rw [q2, q4]⟩
  | ptrR b g o =>
    have hl : (Nat.blt b n && Nat.blt g n) = true := hl
    simp only [Bool.and_eq_true] at hl
    obtain ⟨q1, q2⟩ := hb b hl.1
    obtain ⟨q3, q4⟩ := hb g hl.2
    obtain ⟨_, rfl⟩ := h
    exact ⟨⟨q1, q3⟩, by simp only [SV.conc, q2, q4]⟩
  | slr b g o l =>
    have hl : (Nat.blt b n && Nat.blt g n) = true := hl
    simp only [Bool.and_eq_true] at hl
    obtain ⟨q1, q2⟩ := hb b hl.1
    obtain ⟨q3, q4⟩ := hb g hl.2
    obtain ⟨_, p, c, h1, h2, rfl, h3⟩ := h
    exact ⟨⟨q1, q3⟩, p, c, h1, h2, rfl, by rw [← q2, ← q4]; exact h3⟩
  | slq b o l => obtain ⟨q1, q2⟩ := hb b hl; obtain ⟨_, p, c, h1, h2, rfl, h3⟩ := h; exact ⟨q1, p, c, h1, h2, rfl, by rw [← q2]; exact h3⟩
  | e0 => exact h
  | st L => exact h
  | mp b =>
    have hb : b < n := Nat.le_of_ble_eq_true hl
    exact ⟨hb, by rw [h.2]; simp only [SV.conc]; rw [he b hb]⟩
  | yl b =>
    have hb : b < n := Nat.le_of_ble_eq_true hl
    exact ⟨hb, by rw [h.2]; simp only [SV.conc]; rw [he b hb]⟩
  | fn f caps =>
    obtain ⟨_, rfl⟩ := h
    have hc : ∀ c ∈ caps, c.lt n = true := List.all_eq_true.1 hl
    refine ⟨fun c hm => CV.lt_ok (hc c hm), ?_⟩
    simp only [SV.conc]
    rw [List.map_congr_left fun c hm => CV.lt_conc (hc c hm) he]

theorem all2_lt {env env0 : Nat → Nat} {n m : Nat} (he : ∀ b, b < n → env b = env0 b) : ∀ {l : List SV} {vs : List Value}, All2 (SV.R env m) l vs → l.all (SV.lt n) = true → All2 (SV.R env0 n) l vs
  | [], [], _, _ => trivial
  | s :: l, v :: vs, h, hl => by
    simp only [List.all_cons, Bool.and_eq_true] at hl
    exact ⟨SV.R_lt he h.1 hl.1, all2_lt he h.2 hl.2⟩
  | [], _ :: _, h, _ => h.elim
  | _ :: _, [], h, _ => h.elim

theorem TV.R_lt {env env0 : Nat → Nat} {n m : Nat} (he : ∀ b, b < n → env b = env0 b) {s : TV} {v : Value} (h : s.R env m v) (hl : s.lt n = true) : s.R env0 n v := by
  cases s with
  | one s => exact SV.R_lt he h hl
  | agg l => obtain ⟨vs, rfl, h2⟩ := h; exact ⟨vs, rfl, all2_lt he h2 hl⟩

theorem all2_ltT {env env0 : Nat → Nat} {n m : Nat} (he : ∀ b, b < n → env b = env0 b) : ∀ {l : List TV} {vs : List Value}, All2 (TV.R env m) l vs → l.all (TV.lt n) = true → All2 (TV.R env0 n) l vs
  | [], [], _, _ => trivial
  | s :: l, v :: vs, h, hl => by
    simp only [List.all_cons, Bool.and_eq_true] at hl
    exact ⟨TV.R_lt he h.1 hl.1, all2_ltT he h.2 hl.2⟩
  | [], _ :: _, h, _ => h.elim
  | _ :: _, [], h, _ => h.elim

theorem AV.R_lt {env env0 : Nat → Nat} {n m : Nat} (he : ∀ b, b < n → env b = env0 b) {s : AV} {v : Value} (h : s.R env m v) (hl : s.lt n = true) : s.R env0 n v := by
  cases s with
  | one s => exact SV.R_lt he h hl
  | agg l => obtain ⟨vs, rfl, h2⟩ := h; exact ⟨vs, rfl, all2_lt he h2 hl⟩
  | tup l => obtain ⟨vs, rfl, h2⟩ := h; exact ⟨vs, rfl, all2_ltT he h2 hl⟩

/-! ## What is known of the slots, by the operations that have been carried out -/

/-- What an operation makes. -/
inductive Made where
  | no
  | cells (t : TypeId) (cs : List SV)
  | res (r : RS)
/-- What an operation comes to: a value, and what it makes. -/
structure Rc where
  v : AV
  made : Made

def Made.new (n : Nat) : Made → Nat → AB → Prop
  | .no, _, _ => False
  | .cells t cs, b, ab => b = n ∧ ab = .cells t cs
  | .res r, b, ab => newRC n r.cells b ab

def dstOf (ops : Array Oper) (i : Nat) : Option Tmp := (ops[i]?).bind (·.dst)

/-- The slot t holds what the last one of the operations that are carried out has put there. -/
def slot (ops : Array Oper) (env : Nat → Nat) (N : Nat) (tm0 : TM) (D : Nat → Bool) (t : Tmp) (v : Value) : List Rc → Prop
  | [] => (tm0.get t).R env N v
  | r :: rs => (D rs.length = true → dstOf ops rs.length = some t → r.v.R env N v) ∧ (¬(D rs.length = true ∧ dstOf ops rs.length = some t) → slot ops env N tm0 D t v rs)

/-- The same numbers stand for the blocks ahead of the region, and for those that were made. -/
def Agr (n0 : Nat) (D : Nat → Bool) (env env' : Nat → Nat) : Prop := (∀ b, b < n0 → env' b = env b) ∧ ∀ j, D j = true → ∀ x, x < 4 → env' (n0 + 4 * j + x) = env (n0 + 4 * j + x)

def rat : List Rc → Nat → Option Rc
  | [], _ => none
  | r :: rs, i => if i = rs.length then some r else rat rs i

theorem rat_lt : ∀ {rs : List Rc} {i : Nat} {r : Rc}, rat rs i = some r → i < rs.length
  | q :: rs, i, r, h => by
    simp only [rat] at h
    split at h
    · simp only [List.length_cons]; omega
    · have := rat_lt h; simp only [List.length_cons]; omega

section
variable {ops : Array Oper} {N : Nat} {tm0 : TM} {D D' : Nat → Bool} {env : Nat → Nat} {t : Tmp} {v : Value}

theorem slot_same : ∀ {rs : List Rc}, (∀ j, j < rs.length → dstOf ops j = some t → D j = D' j) → slot ops env N tm0 D t v rs → slot ops env N tm0 D' t v rs
  | [], _, h => h
  | r :: rs, hd, h => by
    refine ⟨fun h1 h2 => ?_, fun hn => ?_⟩
    · exact h.1 (by rw [hd rs.length (by simp) h2]; exact h1) h2
    · refine slot_same (fun j hj => hd j (by simp only [List.length_cons]; omega)) (h.2 fun hq => hn ⟨?_, hq.2⟩)
      rw [← hd rs.length (by simp) hq.2]; exact hq.1

/-- The later ones have not written the slot. -/
theorem slot_drop : ∀ {new rs : List Rc}, (∀ j, rs.length ≤ j → j < (new ++ rs).length → dstOf ops j = some t → D j = false) → slot ops env N tm0 D t v (new ++ rs) → slot ops env N tm0 D t v rs
  | [], _, _, h => h
  | r :: new, rs, hd, h => by
    refine slot_drop (fun j h1 h2 => hd j h1 (by simp only [List.cons_append, List.length_cons]; omega)) (h.2 fun hq => ?_)
    have := hd (new ++ rs).length (by simp) (by simp) hq.2
    exact Bool.noConfusion (hq.1.symm.trans this)

theorem slot_add : ∀ {new rs : List Rc}, (∀ j, rs.length ≤ j → j < (new ++ rs).length → dstOf ops j = some t → D j = false) → slot ops env N tm0 D t v rs → slot ops env N tm0 D t v (new ++ rs)
  | [], _, _, h => h
  | r :: new, rs, hd, h => by
    refine ⟨fun h1 h2 => ?_, fun _ => slot_add (fun j h1 h2 => hd j h1 (by simp only [List.cons_append, List.length_cons]; omega)) h⟩
    have := hd (new ++ rs).length (by simp) (by simp) h2
    exact Bool.noConfusion (h1.symm.trans this)

theorem rat_app : ∀ {new rs : List Rc} {i : Nat}, i < rs.length → rat (new ++ rs) i = rat rs i
  | [], _, _, _ => rfl
  | r :: new, rs, i, h => by
    show (if i = (new ++ rs).length then some r else rat (new ++ rs) i) = _
    rw [if_neg (by simp only [List.length_append]; omega)]
    exact rat_app h

/-- The record at a place, and what stands below. -/
theorem rat_split : ∀ {rs : List Rc} {i : Nat}, i < rs.length → ∃ post r pre, rs = post ++ r :: pre ∧ pre.length = i ∧ rat rs i = some r
  | r :: rs, i, h => by
    by_cases hi : i = rs.length
    · exact ⟨[], r, rs, rfl, hi.symm, by simp [rat, hi]⟩
    · simp only [List.length_cons] at h
      obtain ⟨post, r', pre, h1, h2, h3⟩ := rat_split (rs := rs) (i := i) (by omega)
      exact ⟨r :: post, r', pre, by rw [h1]; rfl, h2, by simp only [rat, if_neg hi]; exact h3⟩
end

/-! ## Memory -/

theorem MR.widen {env env' : Nat → Nat} {mem : Mem} {w : World} {N : Nat} (h : MR C B w0 env mem w) (he : ∀ b, b < mem.n → env' b = env b) (hN : mem.n ≤ N) : MR C B w0 env' ⟨N, mem.t⟩ w := by
  have hx : Ext env mem.n env' N := ⟨hN, he⟩
  refine ⟨h.below, h.base, fun i ab hi => Nat.lt_of_lt_of_le (h.lt i ab hi) hN, fun i ab hi => ?_, fun i j a b hi hj hij ha hb => ?_, fun p hp => ?_, h.gd⟩
  · rw [he i (h.lt i ab hi)]
    exact AB.R_ext hx (h.blk i ab hi)
  · rw [he i (h.lt i a hi), he j (h.lt j b hj)]
    exact h.sep i j a b hi hj hij ha hb
  · obtain ⟨h1, h2⟩ := h.gl p hp
    exact ⟨by rw [he _ h2]; exact h1, Nat.lt_of_lt_of_le h2 hN⟩

theorem only_get {tm : TM} : ∀ {l : List Nat} {t : Nat} {x : AV}, (tm.only l).get t = some x → t ∈ l ∧ tm.get t = x
  | [], t, x, h => by simp only [TM.only] at h; rw [Tr.get_mk] at h; cases h
  | u :: l, t, x, h => by
    simp only [TM.only] at h
    split at h
    · rename_i v hv
      by_cases hut : u = t
      · subst hut
        rw [Tr.get_set_eq _ _ _ _ h]
        exact ⟨List.mem_cons_self .., by simp only [TM.get, hv]⟩
      · rw [Tr.get_set_ne _ _ _ _ hut] at h
        obtain ⟨q1, q2⟩ := only_get h
        exact ⟨List.mem_cons_of_mem _ q1, q2⟩
    · obtain ⟨q1, q2⟩ := only_get h
      exact ⟨List.mem_cons_of_mem _ q1, q2⟩

theorem makeOp_sound {o : Oper} {env : Nat → Nat} {tm : TM} {mem : Mem} {a : Act} {w : World} {t : TypeId} {cs : List SV} (hr : Rel C B w0 env tm mem a w) (h : makeOp C o tm = some (t, cs)) :
    ∃ vs : List Value, All2 (SV.R env mem.n) cs vs ∧ (execOp a.eval o).run C.P w = .ok (.value (.pointer (some ⟨w.heap.size, 0, none⟩))) (w.alloc (.cells vs.toArray t)) := by
  unfold makeOp at h
  unfold execOp
  split at h
  · rename_i t' ho
    simp only [ho]
    split at h
    · rename_i z hz
      cases h
      obtain ⟨zv, h1, h2⟩ := zeroA_R (P := C.P) (w := w) (env := env) (m := mem.n) hz
      exact ⟨_, h2, by simp [Instr.alloc, h1, newVar, newRow]⟩
    · cases h
  · rename_i t' x ho
    simp only [ho]
    split at h
    · rename_i cs' hcs
      cases h
      exact ⟨_, cellsA_R hcs (ev_R hr x), by simp [Instr.box, newVar, newRow]⟩
    · cases h
  · cases h

/-! ## The run, and what each operation comes to -/

theorem wpOpJ_value {P : Program} {J : Judg P} {ops : Array Oper} {Q : Exit → Act → World → Prop} {Kq : Act → World → Prop} {i : Nat} {o : Oper} {a : Act} {w : World} (hi : ops[i]? = some o) (hw : Region.wanted o (yielded ops a.tmps) = true)
    (hns : 1 ≤ J.lvl → NS J.lvl P (execOp a.eval o)) (hv : ∀ w1, J.rel w w1 → ∃ v w', (execOp a.eval o).run P w1 = .ok (.value v) w' ∧ Kq (a.put o.dst v) w') : wpOpJ J ops Q i Kq a w := by
  unfold wpOpJ
  simp only [hi, hw, if_true]
  refine ⟨hns, fun w1 h1 => ?_⟩
  obtain ⟨v, w', h2, h3⟩ := hv w1 h1
  rw [h2]
  exact h3

theorem wpOpJ_call {P : Program} {J : Judg P} {ops : Array Oper} {Q : Exit → Act → World → Prop} {Kq : Act → World → Prop} {i : Nat} {o : Oper} {f : Nat} {args : Array Value} {a : Act} {w : World} (hi : ops[i]? = some o) (hw : Region.wanted o (yielded ops a.tmps) = true)
    (hns : 1 ≤ J.lvl → NS J.lvl P (execOp a.eval o)) (hv : ∀ w1, J.rel w w1 → (execOp a.eval o).run P w1 = .ok (.enter f args) w1 ∧ CallsJ J f args w1 fun e w'' => ∃ v, e = .returned v ∧ Kq (a.put o.dst v) w'') : wpOpJ J ops Q i Kq a w := by
  unfold wpOpJ
  simp only [hi, hw, if_true]
  refine ⟨hns, fun w1 h1 => ?_⟩
  obtain ⟨h2, h3⟩ := hv w1 h1
  rw [h2]
  exact h3.mono fun e w'' ⟨v, he, hK⟩ => by subst he; exact hK

theorem wpOpJ_skip {P : Program} {J : Judg P} {ops : Array Oper} {Q : Exit → Act → World → Prop} {Kq : Act → World → Prop} {i : Nat} {o : Oper} {a : Act} {w : World} (hi : ops[i]? = some o) (hw : Region.wanted o (yielded ops a.tmps) = false)
    (h : Kq (a.put o.dst undef) w) : wpOpJ J ops Q i Kq a w := by
  unfold wpOpJ
  simp only [hi, hw, Bool.false_eq_true, if_false]
  exact h

/-- Whether an operation is wanted is known; the guard's slot is a literal from there on. -/
theorem guarded_known {ops : Array Oper} {o : Oper} {tm : TM} {yes no : TM → Out} (h : (guarded ops.toList o tm yes no).sat K) :
    ∃ (tm' : TM) (b : Bool), (tm'.sz = tm.sz ∧ tm'.df = tm.df) ∧ (∀ t env m v, (tm.get t).R env m v → (tm'.get t).R env m v) ∧ (match b with | true => (yes tm').sat K | false => (no tm').sat K) ∧
      ∀ env m (a : Act), (∀ t ∈ o.looksAt ops, (tm.get t).R env m (a.tmps.getD t undef)) → Region.wanted o (yielded ops a.tmps) = b := by
  unfold guarded at h
  unfold Region.wanted
  cases hg : o.guard with
  | none => rw [hg] at h; exact ⟨tm, true, ⟨rfl, rfl⟩, fun _ _ _ _ h => h, h, fun _ _ _ _ => rfl⟩
  | some p =>
    obtain ⟨j, want⟩ := p
    rw [hg] at h
    dsimp only at h ⊢
    rw [Array.getElem?_toList] at h
    cases hd : (ops[j]?).bind (·.dst) with
    | none => rw [hd] at h; exact h.elim
    | some t =>
      rw [hd] at h
      dsimp only at h
      have hlook : t ∈ o.looksAt ops := by simp [Oper.looksAt, hg, hd]
      have hy : ∀ b, ((tm.get t).bool = .l b ∨ (tm.get t).bool = .s b) → ∀ env m (a : Act), (∀ t ∈ o.looksAt ops, (tm.get t).R env m (a.tmps.getD t undef)) → yielded ops a.tmps j = some b := fun b hb env m a ht => by
        have hv := bool_val hb (ht t hlook)
        have hlt : t < a.tmps.size := by
          rcases Nat.lt_or_ge t a.tmps.size with h | h
          · exact h
          · simp [Array.getElem?_eq_none h, undef] at hv
        have hv' : a.tmps[t]? = some (.bool b) := by
          rw [Array.getElem?_eq_getElem hlt]
          congr 1
          simpa [hlt] using hv
        unfold yielded
        rw [hd]
        simp [hv']
      have hlit : ∀ x, (tm.get t).bool = .s x → ∀ u env m v, (tm.get u).R env m v → ((tm.set t (.one (.lb x))).get u).R env m v := fun x hx u env m v hv => by
        unfold TM.set
        split
        · simp only [TM.get]
          by_cases htu : t = u
          · subst htu
            cases hq : (tm.t.set t (.one (.lb x))).get t with
            | none => trivial
            | some y => rw [Tr.get_set_eq _ _ _ _ hq]; exact ⟨trivial, bool_val (.inr hx) hv⟩
          · rw [Tr.get_set_ne _ _ _ _ htu]; exact hv
        · exact hv
      cases hb : (tm.get t).bool with
      | no =>
        rw [hb] at h
        dsimp only at h
        split at h
        · rename_i l hl
          refine ⟨tm, false, ⟨rfl, rfl⟩, fun _ _ _ _ h => h, h, fun env m a ht => ?_⟩
          have hv := ht t hlook
          rw [hl] at hv
          obtain ⟨vs, hv, _⟩ := hv
          rw [yielded_tuple (j := j) hd hv]
          rfl
        · exact h.elim
      | l x =>
        rw [hb] at h
        dsimp only at h
        refine ⟨tm, x == want, ⟨rfl, rfl⟩, fun _ _ _ _ h => h, ?_, fun env m a ht => ?_⟩
        · cases hq : (x == want) <;> rw [hq] at h <;> exact h
        · rw [hy x (.inl hb) env m a ht]
          cases x <;> cases want <;> rfl
      | s x =>
        rw [hb] at h
        dsimp only at h
        cases want with
        | true =>
          dsimp only at h
          cases x with
          | true => exact ⟨tm.set t (.one (.lb true)), true, ⟨set_sz _ _ _, set_df _ _ _⟩, hlit _ hb, h.1 rfl, fun env m a ht => by rw [hy true (.inr hb) env m a ht]; rfl⟩
          | false => exact ⟨tm.set t (.one (.lb false)), false, ⟨set_sz _ _ _, set_df _ _ _⟩, hlit _ hb, h.2 rfl, fun env m a ht => by rw [hy false (.inr hb) env m a ht]; rfl⟩
        | false =>
          dsimp only at h
          cases x with
          | true => exact ⟨tm.set t (.one (.lb true)), false, ⟨set_sz _ _ _, set_df _ _ _⟩, hlit _ hb, h.1 rfl, fun env m a ht => by rw [hy true (.inr hb) env m a ht]; rfl⟩
          | false => exact ⟨tm.set t (.one (.lb false)), true, ⟨set_sz _ _ _, set_df _ _ _⟩, hlit _ hb, h.2 rfl, fun env m a ht => by rw [hy false (.inr hb) env m a ht]; rfl⟩

/-- What an operation comes to, wherever it stands. -/
def Fact (C : Cfg) (B : Nat → Prop) (w0 : World) (ops : Array Oper) (env0 : Nat → Nat) (mem0 : Mem) (tm0 : TM) (N i : Nat) (o : Oper) (r : Rc) (pre : List Rc) : Prop :=
  ∀ (Q : Exit → Act → World → Prop) (E : (Nat → Nat) → Prop) (env : Nat → Nat) (a : Act) (w : World), E env → (∀ env, E env → ∀ b, b < mem0.n → env b = env0 b) → MR C B w0 env0 mem0 w → a.tmps.size = tm0.sz → Dfs env0 mem0.n tm0.df a.defers →
    (∀ env, E env → ∀ t ∈ o.looksAt ops, slot ops env N tm0 (fun _ => true) t (a.tmps.getD t undef) pre) →
    match r.made with
    | .no => ∀ Kq : Act → World → Prop, (∀ w1, C.J.rel w w1 → ∀ val w', (∀ env, E env → r.v.R env N val) → Below w1.heap.size w1 w' → Kq (a.put o.dst val) w') → wpOpJ C.J ops Q i Kq a w
    | .cells t cs => r.v = .one (.ptr (mem0.n + 4 * i) 0) ∧ ∀ Kq : Act → World → Prop, (∀ w1, C.J.rel w w1 → ∀ vs : List Value, All2 (SV.R env0 mem0.n) cs vs → Kq (a.put o.dst (.pointer (some ⟨w1.heap.size, 0, none⟩))) (w1.alloc (.cells vs.toArray t))) → wpOpJ C.J ops Q i Kq a w
    | .res q => r.v = q.val (mem0.n + 4 * i) ∧ ∀ Kq : Act → World → Prop, (∀ w1, C.J.rel w w1 → ∀ val w', q.Holds w' w1.heap.size val → Below w1.heap.size w1 w' → Kq (a.put o.dst val) w') → wpOpJ C.J ops Q i Kq a w

/-- The slots, and the blocks, as the run has them behind the operations of rs. -/
structure Known (ops : Array Oper) (env0 : Nat → Nat) (mem0 : Mem) (tm0 : TM) (N : Nat) (rs : List Rc) (tm : TM) (mem : Mem) : Prop where
  sz : tm.sz = tm0.sz
  df : tm.df = tm0.df
  slots : ∀ env t v, (∀ b, b < mem0.n → env b = env0 b) → slot ops env N tm0 (fun _ => true) t v rs → (tm.get t).R env N v
  n : mem.n = N
  blks : ∀ b ab, mem.get b = some ab → mem0.get b = some ab ∨ ∃ j r, rat rs j = some r ∧ r.made.new (mem0.n + 4 * j) b ab

theorem Known.put {ops : Array Oper} {env0 : Nat → Nat} {mem0 : Mem} {tm0 : TM} {N : Nat} {rs : List Rc} {tm : TM} {mem : Mem} {o : Oper} (h : Known ops env0 mem0 tm0 N rs tm mem) (ho : ops[rs.length]? = some o) (hin : inSz tm o.dst = true)
    (r : Rc) {mem' : Mem} (hn : mem'.n = N) (hm : ∀ b ab, mem'.get b = some ab → mem.get b = some ab ∨ r.made.new (mem0.n + 4 * rs.length) b ab) : Known ops env0 mem0 tm0 N (r :: rs) (putA tm o.dst r.v) mem' := by
  have hdst : dstOf ops rs.length = o.dst := by simp [dstOf, ho]
  refine ⟨?_, ?_, fun env t v he hs => ?_, hn, fun b ab hb => ?_⟩
  · unfold putA
    split
    · rw [set_sz]; exact h.sz
    · exact h.sz
  · unfold putA
    split
    · rw [set_df]; exact h.df
    · exact h.df
  · by_cases ht : o.dst = some t
    · have := hs.1 rfl (hdst.trans ht)
      rw [ht]
      simp only [putA]
      unfold TM.set
      split
      · simp only [TM.get]
        cases hq : (tm.t.set t r.v).get t with
        | none => trivial
        | some y => rw [Tr.get_set_eq _ _ _ _ hq]; exact this
      · rename_i hb
        rw [ht] at hin
        simp only [inSz] at hin
        rw [hin] at hb
        cases hb
    · have hs' := hs.2 fun q => ht (hdst.symm.trans q.2)
      have := h.slots env t v he hs'
      unfold putA
      split
      · rename_i d hd
        unfold TM.set
        split
        · simp only [TM.get]
          rw [Tr.get_set_ne _ _ _ _ (fun e => ht (by rw [hd, e]))]
          exact this
        · exact this
      · exact this
  · rcases hm b ab hb with h1 | h1
    · rcases h.blks b ab h1 with h2 | ⟨j, r', h3, h4⟩
      · exact .inl h2
      · refine .inr ⟨j, r', ?_, h4⟩
        have := rat_lt h3
        simp only [rat, if_neg (show j ≠ rs.length by omega)]
        exact h3
    · exact .inr ⟨rs.length, r, by simp [rat], h1⟩

theorem Known.refine {ops : Array Oper} {env0 : Nat → Nat} {mem0 : Mem} {tm0 : TM} {N : Nat} {rs : List Rc} {tm tm' : TM} {mem : Mem} (h : Known ops env0 mem0 tm0 N rs tm mem) (hs : tm'.sz = tm.sz ∧ tm'.df = tm.df)
    (ht : ∀ t env m v, (tm.get t).R env m v → (tm'.get t).R env m v) : Known ops env0 mem0 tm0 N rs tm' mem :=
  ⟨hs.1.trans h.sz, hs.2.trans h.df, fun env t v he q => ht t env N v (h.slots env t v he q), h.n, h.blks⟩

/-- The operations' facts, of those from a place on. -/
def Facts (C : Cfg) (B : Nat → Prop) (w0 : World) (ops : Array Oper) (env0 : Nat → Nat) (mem0 : Mem) (tm0 : TM) (N lo : Nat) (R : List Rc) : Prop :=
  ∀ post r pre, R = post ++ r :: pre → lo ≤ pre.length → ∃ o, ops[pre.length]? = some o ∧ (∀ t, o.dst = some t → t < tm0.sz) ∧ (r.made ≠ .no → mem0.n + 4 * pre.length + 4 ≤ N) ∧ (∀ q, r.made = .res q → widRC q.cells ≤ 4) ∧ Fact C B w0 ops env0 mem0 tm0 N pre.length o r pre

theorem makeOp_callV {o : Oper} {tm : TM} {x : TypeId × List SV} (h : makeOp C o tm = some x) : isCallV o = false := by
  unfold makeOp at h
  unfold isCallV
  cases ho : o.op <;> rw [ho] at h <;> first | rfl | cases h

theorem openRun_facts (hC : COk C) {ops : Array Oper} {env0 : Nat → Nat} {mem0 : Mem} {tm0 : TM} {n d : Nat} {k : TM → Mem → Out} : ∀ (l : List Oper) (i : Nat) (tm : TM) (mem : Mem) (rs : List Rc), rs.length = i → i + l.length = n →
    (∀ j, j < l.length → l[j]? = ops[i + j]?) → (openRun C ops mem0.n ⟨mem0.n + d, mem0.t⟩ l i tm mem k).sat K → Known ops env0 mem0 tm0 (mem0.n + d) rs tm mem →
    ∃ new tmE memE, (k tmE memE).sat K ∧ (new ++ rs).length = n ∧ Known ops env0 mem0 tm0 (mem0.n + d) (new ++ rs) tmE memE ∧ Facts C B w0 ops env0 mem0 tm0 (mem0.n + d) rs.length (new ++ rs)
  | [], i, tm, mem, rs, hi, hn, _, h, hk => by
    refine ⟨[], tm, mem, h, by simpa [hi] using hn, hk, fun post r pre he hle => ?_⟩
    have := congrArg List.length he
    simp only [List.nil_append, List.length_append, List.length_cons] at this
    omega
  | o :: rest, i, tm, mem, rs, hi, hn, hl, h, hk => by
    subst hi
    have ho : ops[rs.length]? = some o := by simpa using (hl 0 (by simp)).symm
    simp only [openRun] at h
    split at h
    · exact h.elim
    rename_i hin
    obtain ⟨tm1, b, hsz1, href, hb, hwant⟩ := guarded_known h
    have hk1 := hk.refine hsz1 href
    have hin1 : inSz tm1 o.dst = true := by
      cases hd : o.dst with
      | none => rfl
      | some d => rw [hd] at hin; simp only [inSz, hsz1.1] at hin ⊢; exact hin
    have hin0 : ∀ t, o.dst = some t → t < tm0.sz := fun t ht => by
      rw [ht] at hin
      simp only [inSz, hk.sz] at hin
      exact Nat.le_of_ble_eq_true hin
    have next : ∀ (r : Rc) (mem' : Mem), (openRun C ops mem0.n ⟨mem0.n + d, mem0.t⟩ rest (rs.length + 1) (putA tm1 o.dst r.v) mem' k).sat K → mem'.n = mem0.n + d →
        (∀ b ab, mem'.get b = some ab → mem.get b = some ab ∨ r.made.new (mem0.n + 4 * rs.length) b ab) → (r.made ≠ .no → mem0.n + 4 * rs.length + 4 ≤ mem0.n + d) → (∀ q, r.made = .res q → widRC q.cells ≤ 4) →
        Fact C B w0 ops env0 mem0 tm0 (mem0.n + d) rs.length o r rs →
        ∃ new tmE memE, (k tmE memE).sat K ∧ (new ++ rs).length = n ∧ Known ops env0 mem0 tm0 (mem0.n + d) (new ++ rs) tmE memE ∧ Facts C B w0 ops env0 mem0 tm0 (mem0.n + d) rs.length (new ++ rs) := by
      intro r mem' h' hn' hm hwd hw4 hf
      obtain ⟨new, tmE, memE, q1, q2, q3, q4⟩ := openRun_facts (n := n) hC rest (rs.length + 1) _ mem' (r :: rs) rfl (by simp only [List.length_cons] at hn; omega)
        (fun j hj => by have := hl (j + 1) (by simp only [List.length_cons]; omega); simpa [Nat.add_assoc, Nat.add_comm 1 j] using this) h' (hk1.put ho hin1 r hn' hm)
      have e : new ++ r :: rs = (new ++ [r]) ++ rs := by simp
      rw [e] at q2 q3 q4
      refine ⟨new ++ [r], tmE, memE, q1, q2, q3, fun post r' pre he hle => ?_⟩
      by_cases hlt : (r :: rs).length ≤ pre.length
      · exact q4 post r' pre he hlt
      · have hlen : pre.length = rs.length := by simp only [List.length_cons] at hlt; omega
        have hinj := List.append_inj_right' (s₁ := new ++ [r]) (s₂ := post ++ [r']) (t₁ := rs) (t₂ := pre) (by simpa using he) hlen.symm
        have hinj2 := List.append_inj_left' (s₁ := new ++ [r]) (s₂ := post ++ [r']) (t₁ := rs) (t₂ := pre) (by simpa using he) hlen.symm
        have hr : r = r' := by
          have := congrArg List.getLast? hinj2
          simpa using this
        subst hinj; subst hr
        exact ⟨o, ho, hin0, hwd, hw4, hf⟩
    -- the frame, as far as the operation looks at it
    have view : ∀ (env : Nat → Nat) (a : Act) (w : World), (∀ b, b < mem0.n → env b = env0 b) → MR C B w0 env0 mem0 w → a.tmps.size = tm0.sz → Dfs env0 mem0.n tm0.df a.defers →
        (∀ t ∈ o.looksAt ops, slot ops env (mem0.n + d) tm0 (fun _ => true) t (a.tmps.getD t undef) rs) →
        Rel C B w0 env ⟨tm1.sz, tm1.only (o.looksAt ops), tm1.df⟩ ⟨mem0.n + d, mem0.t⟩ a w := fun env a w he hm hs hd hsl => by
      refine ⟨hs.trans hk1.sz.symm, fun t => ?_, by rw [hk1.df]; exact hd.ext ⟨Nat.le_add_right _ _, he⟩, hm.widen he (Nat.le_add_right _ _)⟩
      show AV.R env (mem0.n + d) (match (tm1.only (o.looksAt ops)).get t with | some v => v | none => .any) _
      cases hq : (tm1.only (o.looksAt ops)).get t with
      | none => trivial
      | some x =>
        obtain ⟨h1, h2⟩ := only_get hq
        subst h2
        exact hk1.slots env t _ he (hsl t h1)
    have wants : ∀ (env : Nat → Nat) (a : Act), (∀ b, b < mem0.n → env b = env0 b) → (∀ t ∈ o.looksAt ops, slot ops env (mem0.n + d) tm0 (fun _ => true) t (a.tmps.getD t undef) rs) →
        Region.wanted o (yielded ops a.tmps) = b := fun env a he hsl => hwant env (mem0.n + d) a fun t ht => hk.slots env t _ he (hsl t ht)
    have wide : ∀ {x : AV} {env : Nat → Nat} {v : Value}, (∀ b, b < mem0.n → env b = env0 b) → x.R env0 mem0.n v → x.R env (mem0.n + d) v := fun he hv => AV.R_ext ⟨Nat.le_add_right _ _, he⟩ hv
    -- a value that is the same whatever the numbers of what was made
    have plain : ∀ (x : AV) (mem' : Mem), mem' = mem → (openRun C ops mem0.n ⟨mem0.n + d, mem0.t⟩ rest (rs.length + 1) (putA tm1 o.dst x) mem' k).sat K →
        (∀ (env : Nat → Nat) (a : Act) (w : World), Rel C B w0 env ⟨tm1.sz, tm1.only (o.looksAt ops), tm1.df⟩ ⟨mem0.n + d, mem0.t⟩ a w → (1 ≤ C.J.lvl → NS C.J.lvl C.P (execOp a.eval o)) ∧ ∃ val, (execOp a.eval o).run C.P w = .ok (.value val) w ∧ x.R env (mem0.n + d) val) → b = true →
        ∃ new tmE memE, (k tmE memE).sat K ∧ (new ++ rs).length = n ∧ Known ops env0 mem0 tm0 (mem0.n + d) (new ++ rs) tmE memE ∧ Facts C B w0 ops env0 mem0 tm0 (mem0.n + d) rs.length (new ++ rs) := by
      rintro x mem' rfl h' hv rfl
      refine next ⟨x, .no⟩ mem' h' hk.n (fun b ab q => .inl q) (fun q => absurd rfl q) (fun _ e => by cases e) fun Q E env a w hE he hm hs hd hsl => ?_
      intro Kq hK
      have hvw := view env a w (he env hE) hm hs hd (hsl env hE)
      refine wpOpJ_value ho (wants env a (he env hE) (hsl env hE)) (hv env a w hvw).1 fun w1 hw1 => ?_
      obtain ⟨val, h1, h2⟩ := (hv env a w1 (hvw.rely hw1)).2
      refine ⟨val, w1, h1, hK w1 hw1 _ w1 (fun env2 hE2 => ?_) (Below.refl _ _)⟩
      obtain ⟨val2, h3, h4⟩ := (hv env2 a w1 ((view env2 a w (he env2 hE2) hm hs hd (hsl env2 hE2)).rely hw1)).2
      rw [h1] at h3
      cases h3
      exact h4
    cases b with
    | false =>
      refine next ⟨.tup [], .no⟩ mem hb hk.n (fun b ab q => .inl q) (fun q => absurd rfl q) (fun _ e => by cases e) fun Q E env a w hE he hm hs hd hsl => ?_
      intro Kq hK
      exact wpOpJ_skip ho (wants env a (he env hE) (hsl env hE)) (hK w (C.J.refl w) undef w (fun _ _ => ⟨[], rfl, trivial⟩) (Below.refl _ _))
    | true =>
      dsimp only at hb
      split at hb
      · exact hb.elim
      rename_i hfine
      split at hb
      · rename_i t x y hp
        cases t with
        | true => exact plain x mem rfl (hb.1 rfl) (fun env a w hr => by obtain ⟨vx, vy, hv, hx, _⟩ := pickB_sound hr hp; exact ⟨fun hl => opFine_ns hr hfine (pickB_callV hp) hl hC.lvl, _, hv, hx⟩) rfl
        | false => exact plain y mem rfl (hb.2 rfl) (fun env a w hr => by obtain ⟨vx, vy, hv, _, hy⟩ := pickB_sound hr hp; exact ⟨fun hl => opFine_ns hr hfine (pickB_callV hp) hl hC.lvl, _, hv, hy⟩) rfl
      · split at hb
        · rename_i ps v hp
          obtain ⟨h1, h2⟩ := needs_sat hb
          exact plain v mem rfl h2 (fun env a w hr => ⟨fun hl => pure_ns hC (w0 := w0) ⟨hr.size, hr.tmp, hr.defers, hr.mem⟩ hfine hp hl, pureOp_sound hC.exs hr hp h1⟩) rfl
        · split at hb
          · rename_i t cs hp
            split at hb
            · rename_i hlt
              simp only [Bool.and_eq_true] at hlt
              obtain ⟨hlt, hwd⟩ := hlt
              have hwd : mem0.n + 4 * rs.length + 4 ≤ mem0.n + d := Nat.le_of_ble_eq_true hwd
              refine next ⟨.one (.ptr (mem0.n + 4 * rs.length) 0), .cells t cs⟩ _ hb hk.n (fun b ab q => ?_) (fun _ => hwd) (fun _ e => by cases e) fun Q E env a w hE he hm hs hd hsl => ?_
              · by_cases hbe : b = mem0.n + 4 * rs.length
                · subst hbe
                  exact .inr ⟨rfl, Tr.get_set_eq _ _ _ _ q⟩
                · simp only [Mem.get, Mem.set] at q
                  rw [Tr.get_set_ne _ _ _ _ (Ne.symm hbe)] at q
                  exact .inl q
              · refine ⟨rfl, ?_⟩
                intro Kq hK
                have hvw := view env a w (he env hE) hm hs hd (hsl env hE)
                refine wpOpJ_value ho (wants env a (he env hE) (hsl env hE)) (fun hl => opFine_ns hvw hfine (makeOp_callV hp) hl hC.lvl) fun w1 hw1 => ?_
                obtain ⟨vs, h1, h2⟩ := makeOp_sound (hvw.rely hw1) hp
                exact ⟨_, _, h2, hK w1 hw1 vs (all2_lt (he env hE) h1 hlt)⟩
            · exact hb.elim
          · split at hb
            · rename_i f args ts hop
              split at hb
              · rename_i g caps hf
                have callee : ∀ {env : Nat → Nat} {a : Act} {w : World} {fn : Func}, Rel C B w0 env ⟨tm1.sz, tm1.only (o.looksAt ops), tm1.df⟩ ⟨mem0.n + d, mem0.t⟩ a w → FnOk C.P g fn → fn.body.isSome = true → (∀ c ∈ caps, c.ok (mem0.n + d)) ∧
                    (1 ≤ C.J.lvl → NS C.J.lvl C.P (execOp a.eval o)) ∧ (execOp a.eval o).run C.P w = .ok (.enter g (args.toList.map a.eval ++ caps.map (CV.conc env)).toArray) w := fun {env a w fn} hr hfn hbo => by
                  have hev := ev_R hr f
                  rw [hf] at hev
                  obtain ⟨hc, hfe⟩ := hev
                  exact ⟨hc, fun _ => call_ns hop hfe (fn_ns hfn hbo), call_run hop hfe hfn hbo w⟩
                split at hb
                · rename_i F hF
                  split at hb
                  · rename_i ps q hp
                    obtain ⟨h1, h2⟩ := needs_sat hb
                    have h2 := bind_sat h2
                    split at h2
                    · rename_i hlt
                      simp only [Bool.and_eq_true] at hlt
                      obtain ⟨h4, hwd⟩ := hlt
                      have hwd : mem0.n + 4 * rs.length + 4 ≤ mem0.n + d := Nat.le_of_ble_eq_true hwd
                      refine next ⟨q.now.val (mem0.n + 4 * rs.length), .res q.now⟩ _ h2 hk.n (fun b ab q => putRC_get q) (fun _ => hwd) (fun q e => by cases e; exact Nat.le_of_ble_eq_true h4) fun Q E env a w hE he hm hs hd hsl => ?_
                      refine ⟨rfl, ?_⟩
                      intro Kq hK
                      have hr := view env a w (he env hE) hm hs hd (hsl env hE)
                      obtain ⟨⟨fn, hfn, hbo⟩, hsum⟩ := hC.fsum _ (sumF_mem hF)
                      refine wpOpJ_call (f := g) (args := (args.toList.map a.eval ++ caps.map (CV.conc env)).toArray) ho (wants env a (he env hE) (hsl env hE)) (callee hr hfn hbo).2.1 fun w1 hw1 => ?_
                      have hr := hr.rely hw1
                      obtain ⟨hc, _, hrun⟩ := callee hr hfn hbo
                      exact ⟨hrun, (hsum _ _ q ps hp h1 B w0 w1 env _ hr.mem (args_R hr hc args)).mono fun e w' ⟨z, hz, hbl, hR⟩ => ⟨z, hz, hK w1 hw1 z w' hR hbl⟩⟩
                    · exact h2.elim
                  · exact hb.elim
                · split at hb
                  · rename_i F hF
                    split at hb
                    · rename_i ps v hp
                      split at hb
                      · rename_i hlt
                        obtain ⟨h1, h2⟩ := needs_sat hb
                        refine next ⟨v, .no⟩ mem h2 hk.n (fun b ab q => .inl q) (fun q => absurd rfl q) (fun _ e => by cases e) fun Q E env a w hE he hm hs hd hsl => ?_
                        intro Kq hK
                        have hr := view env a w (he env hE) hm hs hd (hsl env hE)
                        obtain ⟨⟨fn, hfn, hbo⟩, hsum⟩ := hC.ps _ (assoc_mem hF)
                        refine wpOpJ_call (f := g) (args := (args.toList.map a.eval ++ caps.map (CV.conc env)).toArray) ho (wants env a (he env hE) (hsl env hE)) (callee hr hfn hbo).2.1 fun w1 hw1 => ?_
                        have hr := hr.rely hw1
                        obtain ⟨hc, _, hrun⟩ := callee hr hfn hbo
                        exact ⟨hrun, (hsum _ _ v ps hp h1 B w0 w1 env _ hr.mem (args_R hr hc args)).mono fun e w' ⟨⟨z, hz, hR⟩, hbl⟩ => ⟨z, hz, hK w1 hw1 z w' (fun env2 hE2 => wide (he env2 hE2) (AV.R_lt (he env hE) hR hlt)) hbl⟩⟩
                      · exact hb.elim
                    · exact hb.elim
                  · exact hb.elim
              · exact hb.elim
            · exact hb.elim

/-! ## The region -/

theorem openB_le {ops : Array Oper} {n : Nat} (h : openB ops n = true) : n ≤ ops.size := by
  unfold openB at h
  split at h
  · rename_i he; exact Nat.le_of_eq (Nat.eq_of_beq_eq_true he)
  · simp only [Region.lexTailB, Bool.and_eq_true, decide_eq_true_eq] at h
    exact Nat.le_of_lt h.1.1.1.2

theorem put_get {a : Act} {d : Option Tmp} {v : Value} {t : Tmp} (h : d ≠ some t) : (a.put d v).tmps.getD t undef = a.tmps.getD t undef := by
  cases d with
  | none => rfl
  | some d =>
    have : d ≠ t := fun e => h (by rw [e])
    simp [Act.put, Array.getElem?_setIfInBounds_ne this]

theorem put_get_eq {a : Act} {v : Value} {t : Tmp} (h : t < a.tmps.size) : (a.put (some t) v).tmps.getD t undef = v := by
  simp [Act.put, h]

theorem put_size {a : Act} {d : Option Tmp} {v : Value} : (a.put d v).tmps.size = a.tmps.size := by
  cases d <;> simp [Act.put]

theorem put_defers' {a : Act} {d : Option Tmp} {v : Value} : (a.put d v).defers = a.defers := by
  cases d <;> rfl

/-- What is known while the operations are carried out. -/
structure During (C : Cfg) (B : Nat → Prop) (w0 : World) (ops : Array Oper) (env0 : Nat → Nat) (mem0 : Mem) (tm0 : TM) (N hs0 : Nat) (R : List Rc) (env : Nat → Nat) (listed : Array Bool) (a : Act) (w : World) : Prop where
  ag : ∀ b, b < mem0.n → env b = env0 b
  lsz : listed.size = ops.size
  mr : MR C B w0 env0 mem0 w
  sz : a.tmps.size = tm0.sz
  defers : Dfs env0 mem0.n tm0.df a.defers
  grown : hs0 ≤ w.heap.size
  slots : ∀ env2, Agr mem0.n (fun j => listed.getD j false) env env2 → ∀ t, slot ops env2 N tm0 (fun j => listed.getD j false) t (a.tmps.getD t undef) R
  made : ∀ i r, rat R i = some r → listed.getD i false = true → ∀ b ab, r.made.new (mem0.n + 4 * i) b ab → hs0 ≤ env b ∧ env b < w.heap.size ∧ ∀ env2, Agr mem0.n (fun j => listed.getD j false) env env2 → ab.R env2 N B w (env b)
  apart : ∀ i j ri rj b c x y, rat R i = some ri → rat R j = some rj → listed.getD i false = true → listed.getD j false = true → ri.made.new (mem0.n + 4 * i) b x → rj.made.new (mem0.n + 4 * j) c y → b ≠ c → env b ≠ env c

theorem Made.new_in {n b : Nat} {ab : AB} {m : Made} (h : m.new n b ab) (hw : ∀ q, m = .res q → widRC q.cells ≤ 4) : n ≤ b ∧ b < n + 4 := by
  cases m with
  | no => exact h.elim
  | cells t cs => obtain ⟨rfl, _⟩ := h; omega
  | res q =>
    have := newRC_le h
    have := hw q rfl
    omega

/-- The numbers of one operation stand for something new. -/
def envAt (env f : Nat → Nat) (n : Nat) : Nat → Nat := fun b => if n ≤ b ∧ b < n + 4 then f b else env b

theorem During.step {ops : Array Oper} {env0 : Nat → Nat} {mem0 : Mem} {tm0 : TM} {N hs0 n : Nat} {R : List Rc} {lo : Nat} {Q : Exit → Act → World → Prop} (hlen : R.length = n) (hpw : ∀ i, lo ≤ i → i < n → ∀ j oi oj, i < j → ops[i]? = some oi → ops[j]? = some oj → (∃ e ∈ oj.after, Region.binds .any e = true ∧ e.on = i) ∨ oi.apart ops oj = true) (hbase : ∀ b, B b → b < hs0)
    (hfacts : Facts C B w0 ops env0 mem0 tm0 N lo R) (hdum : ∀ j r, j < lo → rat R j = some r → r.made = .no)
    {listed : Array Bool} {i : Nat} {a : Act} {w : World} (hlow : ∀ j, j < lo → listed.getD j false = true) (hloi : lo ≤ i) (inv : HeadInv .any ops n listed) (hi : i ∈ Region.ready .any ops listed) (hin : i < n) (h : ∃ env, During C B w0 ops env0 mem0 tm0 N hs0 R env listed a w) :
    wpOpJ C.J ops Q i (fun a' w' => ∃ env, During C B w0 ops env0 mem0 tm0 N hs0 R env (listed.setIfInBounds i true) a' w') a w := by
  obtain ⟨env, h⟩ := h
  obtain ⟨hun, o', ho', hall⟩ := mem_ready.1 hi
  obtain ⟨post, r, pre, hR, hpre, hrat⟩ := rat_split (rs := R) (i := i) (by omega)
  subst hpre
  obtain ⟨o, ho, hdin, hwide, _, hf⟩ := hfacts post r pre hR hloi
  obtain rfl : o' = o := Option.some.inj (ho'.symm.trans ho)
  have hunf : listed.getD pre.length false = false := getD_both hun
  -- later operations that touch what this one touches are not yet listed
  have later : ∀ j oj, pre.length < j → ops[j]? = some oj → o'.apart ops oj = false → listed.getD j false = false := fun j oj hj hoj hap => by
    rcases hpw pre.length hloi hin j o' oj hj ho hoj with ⟨e, he, hb, hon⟩ | h1
    · cases hl : listed.getD j false with
      | false => rfl
      | true =>
        have := inv.closed j oj hoj hl e he hb
        rw [hon, hunf] at this
        cases this
    · rw [hap] at h1; cases h1
  have earlier : ∀ j oj, j < pre.length → ops[j]? = some oj → oj.apart ops o' = false → listed.getD j false = true := fun j oj hj hoj hap => by
    rcases Nat.lt_or_ge j lo with hjl | hjl
    · exact hlow j hjl
    rcases hpw j hjl (by omega) pre.length oj o' hj hoj ho with ⟨e, he, hb, hon⟩ | h1
    · have := hall e he hb
      rw [hon] at this
      exact this
    · rw [hap] at h1; cases h1
  have getop : ∀ j t, dstOf ops j = some t → ∃ oj, ops[j]? = some oj ∧ oj.dst = some t := fun j t hj => by
    unfold dstOf at hj
    exact Option.bind_eq_some_iff.1 hj
  have notap : ∀ {x y : Oper}, (x.apart ops y = true → False) → x.apart ops y = false := fun {x y} hh => by
    cases hq : x.apart ops y with
    | false => rfl
    | true => exact (hh hq).elim
  have look : ∀ env2, Agr mem0.n (fun j => listed.getD j false) env env2 → ∀ t ∈ o'.looksAt ops, slot ops env2 N tm0 (fun _ => true) t (a.tmps.getD t undef) pre := fun env2 hE t ht => by
    have h1 := h.slots env2 hE t
    rw [hR, show post ++ r :: pre = (post ++ [r]) ++ pre by simp] at h1
    have h2 := slot_drop (fun j hj1 hj2 hd => ?_) h1
    · refine slot_same (fun j hj hd => ?_) h2
      obtain ⟨oj, hoj, hdj⟩ := getop j t hd
      exact earlier j oj hj hoj (notap fun hap => (Oper.apart_spec hap).1 t hdj ht)
    · obtain ⟨oj, hoj, hdj⟩ := getop j t hd
      by_cases hje : j = pre.length
      · rw [hje]; exact hunf
      · exact later j oj (by omega) hoj (notap fun hap => (Oper.apart_spec hap).2.2 t hdj ht)
  have self : (listed.setIfInBounds pre.length true).getD pre.length false = true := getD_set_self false hun
  have other : ∀ j, j ≠ pre.length → (listed.setIfInBounds pre.length true).getD j false = listed.getD j false := fun j hj => getD_set_ne false (Ne.symm hj)
  have wid4 : ∀ j rj, rat R j = some rj → ∀ q, rj.made = .res q → widRC q.cells ≤ 4 := fun j rj hj q hq => by
    rcases Nat.lt_or_ge j lo with hjl | hjl
    · rw [hdum j rj hjl hj] at hq; cases hq
    obtain ⟨post', r', pre', hR', hpre', hrat'⟩ := rat_split (rs := R) (i := j) (rat_lt hj)
    obtain rfl : rj = r' := Option.some.inj (hj.symm.trans hrat')
    obtain ⟨_, _, _, _, h4, _⟩ := hfacts post' rj pre' hR' (by omega)
    exact h4 q hq
  have rng : ∀ j rj b x, rat R j = some rj → rj.made.new (mem0.n + 4 * j) b x → mem0.n + 4 * j ≤ b ∧ b < mem0.n + 4 * j + 4 := fun j rj b x hj hn => Made.new_in hn (wid4 j rj hj)
  -- what is new of this operation has new numbers
  have fin : ∀ (f : Nat → Nat) (val : Value) (w' : World), Below w.heap.size w w' →
      (∀ env2, (∀ b, b < mem0.n → env2 b = env b) → (∀ j, listed.getD j false = true → ∀ x, x < 4 → env2 (mem0.n + 4 * j + x) = env (mem0.n + 4 * j + x)) → (∀ x, x < 4 → env2 (mem0.n + 4 * pre.length + x) = f (mem0.n + 4 * pre.length + x)) → r.v.R env2 N val ∧
        ∀ b ab, r.made.new (mem0.n + 4 * pre.length) b ab → ab.R env2 N B w' (f b)) →
      (∀ b ab, r.made.new (mem0.n + 4 * pre.length) b ab → w.heap.size ≤ f b ∧ f b < w'.heap.size) →
      (∀ b c x y, r.made.new (mem0.n + 4 * pre.length) b x → r.made.new (mem0.n + 4 * pre.length) c y → b ≠ c → f b ≠ f c) →
      ∃ env', During C B w0 ops env0 mem0 tm0 N hs0 R env' (listed.setIfInBounds pre.length true) (a.put o'.dst val) w' := fun f val w' hb hval hlo hinj => by
    let env' := envAt env f (mem0.n + 4 * pre.length)
    have e0 : ∀ b, b < mem0.n → env' b = env b := fun b hb => if_neg (by omega)
    have e1 : ∀ x, x < 4 → env' (mem0.n + 4 * pre.length + x) = f (mem0.n + 4 * pre.length + x) := fun x hx => if_pos ⟨by omega, by omega⟩
    have e2 : ∀ j, j ≠ pre.length → ∀ x, x < 4 → env' (mem0.n + 4 * j + x) = env (mem0.n + 4 * j + x) := fun j hj x hx => if_neg (by omega)
    have agr : ∀ env2, Agr mem0.n (fun j => (listed.setIfInBounds pre.length true).getD j false) env' env2 → Agr mem0.n (fun j => listed.getD j false) env env2 ∧ (∀ x, x < 4 → env2 (mem0.n + 4 * pre.length + x) = f (mem0.n + 4 * pre.length + x)) := fun env2 hE => by
      refine ⟨⟨fun b hb => (hE.1 b hb).trans (e0 b hb), fun j hj x hx => ?_⟩, fun x hx => (hE.2 _ self x hx).trans (e1 x hx)⟩
      have hne : j ≠ pre.length := fun e => by
        have hj : listed.getD j false = true := hj
        rw [e, hunf] at hj; cases hj
      exact (hE.2 j ((other j hne).trans hj) x hx).trans (e2 j hne x hx)
    have hnew : ∀ b ab, r.made.new (mem0.n + 4 * pre.length) b ab → env' b = f b := fun b ab hn => by
      have := rng _ _ _ _ hrat hn
      exact if_pos this
    have hold : ∀ j rj b x, j ≠ pre.length → rat R j = some rj → rj.made.new (mem0.n + 4 * j) b x → env' b = env b := fun j rj b x hne hj hn => by
      have := rng j rj b x hj hn
      rw [show b = mem0.n + 4 * j + (b - (mem0.n + 4 * j)) by omega]
      exact e2 j hne _ (by omega)
    refine ⟨env', fun b hb => (e0 b hb).trans (h.ag b hb), by simp [h.lsz], h.mr.later hb, by rw [put_size]; exact h.sz, by rw [put_defers']; exact h.defers, Nat.le_trans h.grown hb.size, fun env2 hE t => ?_, fun j r' hj hl b ab hn => ?_, fun j k rj rk b c x y hj hk hlj hlk hbj hbk hbc => ?_⟩
    · obtain ⟨hE1, hE2⟩ := agr env2 hE
      have hdst : dstOf ops pre.length = o'.dst := by simp [dstOf, ho]
      by_cases ht : o'.dst = some t
      · rw [ht, put_get_eq (by rw [h.sz]; exact hdin t ht), hR]
        refine slot_add (fun j hj1 hj2 hd => ?_) ⟨fun _ _ => (hval env2 hE1.1 hE1.2 hE2).1, fun hn => absurd ⟨self, hdst.trans ht⟩ hn⟩
        obtain ⟨oj, hoj, hdj⟩ := getop j t hd
        simp only [List.length_cons] at hj1
        show (listed.setIfInBounds pre.length true).getD j false = false
        rw [other j (by omega)]
        exact later j oj (by omega) hoj (notap fun hap => (Oper.apart_spec hap).2.1 t ht hdj)
      · rw [put_get ht]
        refine slot_same (fun j _ hd => ?_) (h.slots env2 hE1 t)
        exact (other j (fun e => ht (by rw [← hdst, ← e, hd]))).symm
    · by_cases hje : j = pre.length
      · subst hje
        obtain rfl : r = r' := Option.some.inj (hrat.symm.trans hj)
        rw [hnew b ab hn]
        refine ⟨Nat.le_trans h.grown (hlo b ab hn).1, (hlo b ab hn).2, fun env2 hE => ?_⟩
        obtain ⟨hE1, hE2⟩ := agr env2 hE
        exact (hval env2 hE1.1 hE1.2 hE2).2 b ab hn
      · rw [other j hje] at hl
        rw [hold j r' b ab hje hj hn]
        obtain ⟨q1, q2, q3⟩ := h.made j r' hj hl b ab hn
        exact ⟨q1, Nat.lt_of_lt_of_le q2 hb.size, fun env2 hE => AB.R_below (q3 env2 (agr env2 hE).1) hb⟩
    · by_cases hje : j = pre.length
      · subst hje
        obtain rfl : r = rj := Option.some.inj (hrat.symm.trans hj)
        rw [hnew b x hbj]
        by_cases hke : k = pre.length
        · subst hke
          obtain rfl : r = rk := Option.some.inj (hrat.symm.trans hk)
          rw [hnew c y hbk]
          exact hinj b c x y hbj hbk hbc
        · rw [hold k rk c y hke hk hbk]
          rw [other k hke] at hlk
          have := (h.made k rk hk hlk c y hbk).2.1
          have := (hlo b x hbj).1
          omega
      · rw [hold j rj b x hje hj hbj]
        rw [other j hje] at hlj
        by_cases hke : k = pre.length
        · subst hke
          obtain rfl : r = rk := Option.some.inj (hrat.symm.trans hk)
          rw [hnew c y hbk]
          have := (h.made j rj hj hlj b x hbj).2.1
          have := (hlo c y hbk).1
          omega
        · rw [hold k rk c y hke hk hbk]
          rw [other k hke] at hlk
          exact h.apart j k rj rk b c x y hj hk hlj hlk hbj hbk hbc
  have hf := hf Q (fun env2 => Agr mem0.n (fun j => listed.getD j false) env env2) env a w ⟨fun _ _ => rfl, fun _ _ _ _ => rfl⟩ (fun env2 hE b hb => (hE.1 b hb).trans (h.ag b hb)) h.mr h.sz h.defers look
  have hsz : ∀ {w1 : World}, C.J.rel w w1 → w1.heap.size = w.heap.size := fun h1 => by obtain ⟨d, rfl⟩ := C.J.drawn _ _ h1; rfl
  have blw : ∀ {w1 w' : World}, C.J.rel w w1 → Below w1.heap.size w1 w' → Below w.heap.size w w' := fun h1 hb => by
    obtain ⟨d, rfl⟩ := C.J.drawn _ _ h1
    exact ⟨hb.os, hb.tape, hb.output, hb.size, hb.block⟩
  have hBn : ∀ x, w.heap.size ≤ x → ¬ B x := fun x hx hB => by have := hbase x hB; have := h.grown; omega
  split at hf
  · rename_i hblk
    refine hf _ fun w1 hw1 val w' hv hb => fin env val w' (blw hw1 hb) (fun env2 h1 h2 _ => ⟨hv env2 ⟨h1, h2⟩, fun b ab hn => by rw [hblk] at hn; exact hn.elim⟩) (fun b ab hn => by rw [hblk] at hn; exact hn.elim) (fun b c x y hn => by rw [hblk] at hn; exact hn.elim)
  · rename_i t cs hblk
    obtain ⟨hrv, hf⟩ := hf
    have hN := hwide (by rw [hblk]; intro e; cases e)
    refine hf _ fun w1 hw1 vs hvs => ?_
    have hb1 : Below w1.heap.size w1 (w1.alloc (.cells vs.toArray t)) := (Below.refl _ _).alloc (Nat.le_refl _) _
    have hb := blw hw1 hb1
    have hnew : (w1.alloc (.cells vs.toArray t)).heap[w1.heap.size]? = some (.cells vs.toArray t (0, 0)) := heap_alloc_new w1 _
    rw [hsz hw1] at hnew ⊢
    refine fin (fun _ => w.heap.size) _ _ hb (fun env2 h1 h2 h3 => ⟨?_, fun b ab hn => ?_⟩) (fun b ab hn => ⟨Nat.le_refl _, lt_of_heap hnew⟩) (fun b c x y hn hn' hbc => ?_)
    · rw [hrv]
      have := h3 0 (by omega)
      have this : env2 (mem0.n + 4 * pre.length) = w.heap.size := this
      exact ⟨show mem0.n + 4 * pre.length < N by omega, show Value.pointer (some ⟨w.heap.size, 0, none⟩) = .pointer (some ⟨env2 (mem0.n + 4 * pre.length), 0, none⟩) by rw [this]⟩
    · rw [hblk] at hn
      obtain ⟨rfl, rfl⟩ := hn
      exact ⟨vs, hnew, hvs.imp fun _ _ => SV.R_ext ⟨by omega, fun b hb => (h1 b hb).trans (h.ag b hb)⟩, hBn _ (Nat.le_refl _)⟩
    · rw [hblk] at hn hn'
      exact absurd (hn.1.trans hn'.1.symm) hbc
  · rename_i q hblk
    obtain ⟨hrv, hf⟩ := hf
    have hq4 := wid4 _ _ hrat q hblk
    have hN := hwide (by rw [hblk]; intro e; cases e)
    refine hf _ fun w1 hw1 val w' ⟨flat, bs, g1, g2, g3⟩ hb => ?_
    have hb := blw hw1 hb
    rw [hsz hw1] at g2
    obtain ⟨f, f1, f2, f3⟩ := rc_env (n := mem0.n + 4 * pre.length) g2 g3
    refine fin f val w' hb (fun env2 h1 h2 h3 => ⟨?_, fun b ab hn => ?_⟩) (fun b ab hn => ?_) (fun b c x y hn hn' hbc => ?_)
    · rw [hrv]
      refine RS.asm_R g1 (f1 env2 N (fun b hb1 hb2 => ?_) (by omega))
      have := h3 (b - (mem0.n + 4 * pre.length)) (by omega)
      rw [show mem0.n + 4 * pre.length + (b - (mem0.n + 4 * pre.length)) = b by omega] at this
      exact this
    · rw [hblk] at hn
      have hle := newRC_le hn
      obtain ⟨_, p2, ty, k, L, rest, rfl, p3, p4, p5⟩ := f2 b ab hn
      refine ⟨rest, p3, ?_, by omega, p5, hBn _ p2⟩
      have := h3 (b + 1 - (mem0.n + 4 * pre.length)) (by omega)
      rw [show mem0.n + 4 * pre.length + (b + 1 - (mem0.n + 4 * pre.length)) = b + 1 by omega] at this
      rw [this]; exact p4
    · rw [hblk] at hn
      obtain ⟨_, p2, ty, k, L, rest, _, p3, _⟩ := f2 b ab hn
      exact ⟨p2, lt_of_heap p3⟩
    · rw [hblk] at hn hn'
      exact f3 b c x y hn hn' hbc

theorem open_any (hC : COk C) {ops : Array Oper} {n d : Nat} (hB : openB ops n = true) {Q : Exit → Act → World → Prop} {a : Act} {w : World} {env : Nat → Nat} {tm : TM} {mem : Mem} (hr : Rel C B w0 env tm mem a w) {k : TM → Mem → Out}
    (h : (openRun C ops mem.n ⟨mem.n + d, mem.t⟩ (ops.toList.take n) 0 tm ⟨mem.n + d, mem.t⟩ k).sat K)
    (hk : ∀ tm' mem' env' a' w', (k tm' mem').sat K → Rel C B w0 env' tm' mem' a' w' → Ext env mem.n env' mem'.n → wpListJ C.J ops Q (ops.toList.drop n) a' w') : wpAnyJ C.J .any ops Q ops.size (Array.replicate ops.size false) a { w with drawn := w.drawn + 1 } := by
  have hle := openB_le hB
  have hmr : MR C B w0 env mem { w with drawn := w.drawn + 1 } := hr.mem.drew
  have hl : (ops.toList.take n).length = n := by simp; omega
  have k0 : Known ops env mem tm (mem.n + d) [] tm ⟨mem.n + d, mem.t⟩ := ⟨rfl, rfl, fun env' t v he hs => hs, rfl, fun b ab hb => .inl hb⟩
  obtain ⟨R, tmE, memE, q1, q2, q3, q4⟩ := openRun_facts (B := B) (w0 := w0) (n := n) hC (ops.toList.take n) 0 tm _ [] rfl (by rw [hl]; omega)
    (fun j hj => by rw [hl] at hj; simp [hj]) h k0
  rw [List.append_nil] at q2 q3 q4
  refine any_open (n := n) (Iv := fun listed a w' => ∃ env', During C B w0 ops env mem tm (mem.n + d) w.heap.size R env' listed a w') hB ?_ (fun _ hpw listed i a' w' inv hi hin hJ =>
    During.step (lo := 0) q2 (fun i _ hi => hpw i hi) hr.mem.base q4 (fun j _ h => absurd h (Nat.not_lt_zero _)) (fun j h => absurd h (Nat.not_lt_zero _)) (Nat.zero_le _) inv hi hin hJ) ?_
  · refine ⟨env, fun _ _ => rfl, by simp, hmr, hr.size, hr.defers, Nat.le_refl _, fun env2 hE t => ?_, fun i r _ hl => ?_, fun i j ri rj b c x y _ _ hl => ?_⟩
    · have h1 := AV.R_ext (m' := mem.n + d) ⟨Nat.le_add_right _ _, hE.1⟩ (hr.tmp t)
      have : slot ops env2 (mem.n + d) tm (fun j => (Array.replicate ops.size false).getD j false) t (a.tmps.getD t undef) (R ++ []) :=
        slot_add (fun j _ _ _ => getD_replicate_false _ _) h1
      rwa [List.append_nil] at this
    · rw [getD_replicate_false] at hl; cases hl
    · rw [getD_replicate_false] at hl; cases hl
  · intro listed a' w' hall ⟨env', hd⟩
    have hmr0 := hr.mem
    have allD : ∀ i r, rat R i = some r → listed.getD i false = true := fun i r hi => by
      have hlt := rat_lt hi
      have h1 := hall i (by omega)
      have hin : i < listed.size := by rw [hd.lsz]; omega
      simpa [hin] using h1
    have hx : Ext env mem.n env' (mem.n + d) := ⟨Nat.le_add_right _ _, hd.ag⟩
    have self : Agr mem.n (fun j => listed.getD j false) env' env' := ⟨fun _ _ => rfl, fun _ _ _ _ => rfl⟩
    refine hk tmE memE env' a' w' q1 ⟨hd.sz.trans q3.sz.symm, fun t => ?_, by rw [q3.df, q3.n]; exact hd.defers.ext hx, ?_⟩ (by rw [q3.n]; exact hx)
    · rw [q3.n]
      refine q3.slots env' t _ hd.ag (slot_same (fun j hj _ => ?_) (hd.slots env' self t))
      obtain ⟨_, r, _, _, _, hrat⟩ := rat_split hj
      exact allD j r hrat
    · have hN : memE.n = mem.n + d := q3.n
      have := MR.join (t := memE.t) hd.mr hx (fun b => ∃ j r ab, rat R j = some r ∧ r.made.new (mem.n + 4 * j) b ab) (fun b ab hg => ?_) (fun b ⟨j, r, x, hj, hn⟩ i ab hi hw => ?_) (fun b c ⟨j, rj, x, hj, hnj⟩ ⟨k, rk, y, hk, hnk⟩ hbc => hd.apart j k rj rk b c x y hj hk (allD j rj hj) (allD k rk hk) hnj hnk hbc)
      · rw [← hN] at this; exact this
      · rcases q3.blks b ab hg with h1 | ⟨j, r, hj, hn⟩
        · exact .inl h1
        · refine .inr ⟨⟨j, r, ab, hj, hn⟩, ?_, (hd.made j r hj (allD j r hj) b ab hn).2.2 env' self⟩
          obtain ⟨post, r', pre, hR, hpre, hrat⟩ := rat_split (rs := R) (i := j) (rat_lt hj)
          obtain rfl : r = r' := Option.some.inj (hj.symm.trans hrat)
          obtain ⟨_, _, _, hwd, h4, _⟩ := q4 post r pre hR (Nat.zero_le _)
          subst hpre
          have := hwd (by intro e; rw [e] at hn; exact hn)
          have := (Made.new_in hn h4).2
          omega
      · have := (hd.made j r hj (allD j r hj) b x hn).1
        have := (AB.heap_lt (hmr0.blk i ab hi) hw).1
        omega

theorem open_sound (hC : COk C) {ops : Array Oper} {n id d : Nat} (hB : openB ops n = true) {Q : Exit → Act → World → Prop} {a : Act} {w : World} {env : Nat → Nat} {tm : TM} {mem : Mem} (hr : Rel C B w0 env tm mem a w) {k : TM → Mem → Out}
    (h : (openRun C ops mem.n ⟨mem.n + d, mem.t⟩ (ops.toList.take n) 0 tm ⟨mem.n + d, mem.t⟩ k).sat K)
    (hk : ∀ tm' mem' env' a' w', (k tm' mem').sat K → Rel C B w0 env' tm' mem' a' w' → Ext env mem.n env' mem'.n → wpListJ C.J ops Q (ops.toList.drop n) a' w') : wpJ C.J (.region id ops true) Q a w :=
  wpJ_region_any hC.mixed fun w1 h1 => open_any hC hB (hr.rely h1) h hk
theorem open_headAt (hC : COk C) {ops ops' : Array Oper} {n id d : Nat} {fl : Bool} (hh : headAt ops = some (ops', n, fl)) {Q : Exit → Act → World → Prop} (hQ : fl = true → ∀ c a w, ¬ Q (.panic c) a w) (hQs : ∀ a w w1, C.J.rel w w1 → Q .normal a w → Q .normal a w1)
    {a : Act} {w : World} {env : Nat → Nat} {tm : TM} {mem : Mem} (hr : Rel C B w0 env tm mem a w) {k : TM → Mem → Out}
    (h : (openRun C ops' mem.n ⟨mem.n + d, mem.t⟩ (ops'.toList.take n) 0 tm ⟨mem.n + d, mem.t⟩ k).sat K)
    (hk : ∀ tm' mem' env' a' w', (k tm' mem').sat K → Rel C B w0 env' tm' mem' a' w' → Ext env mem.n env' mem'.n → wpListJ C.J ops' Q (ops'.toList.drop n) a' w') : wpJ C.J (.region id ops true) Q a w := by
  obtain ⟨hB, _, hup⟩ := headAt_any (J := C.J) hh
  exact wpJ_region_any hC.mixed fun w1 h1 => hup hQ hQs (open_any hC hB (hr.rely h1) h hk)


/-! ## Regions in parts -/

/-- What stands for the operations ahead of a part: what the slots hold. -/
def dummies (ops : Array Oper) (tm : TM) : Nat → List Rc
  | 0 => []
  | k + 1 => ⟨match dstOf ops k with | some t => tm.get t | none => .any, .no⟩ :: dummies ops tm k
theorem dummies_len {ops : Array Oper} {tm : TM} : ∀ {k : Nat}, (dummies ops tm k).length = k
  | 0 => rfl
  | k + 1 => by simp [dummies, dummies_len (k := k)]
theorem dummies_made {ops : Array Oper} {tm : TM} : ∀ {k j : Nat} {r : Rc}, rat (dummies ops tm k) j = some r → r.made = .no
  | 0, j, r, h => by cases h
  | k + 1, j, r, h => by
    simp only [dummies, rat] at h
    split at h
    · cases h; rfl
    · exact dummies_made h
theorem slot_dummies {ops : Array Oper} {tm : TM} {env : Nat → Nat} {N : Nat} {D : Nat → Bool} {t : Tmp} {v : Value} : ∀ {k : Nat}, (tm.get t).R env N v → slot ops env N tm D t v (dummies ops tm k)
  | 0, h => h
  | k + 1, h => ⟨fun _ h2 => by rw [dummies_len] at h2; simp only [h2]; exact h, fun _ => slot_dummies h⟩
theorem dummies_slot {ops : Array Oper} {tm : TM} {env : Nat → Nat} {N : Nat} {t : Tmp} {v : Value} : ∀ {k : Nat}, slot ops env N tm (fun _ => true) t v (dummies ops tm k) → (tm.get t).R env N v
  | 0, h => h
  | k + 1, h => by
    by_cases hd : dstOf ops k = some t
    · have := h.1 rfl (by rw [dummies_len]; exact hd)
      simp only [hd] at this
      exact this
    · exact dummies_slot (h.2 fun q => hd (by rw [dummies_len] at q; exact q.2))
theorem rat_append {R : List Rc} {j : Nat} : ∀ {new : List Rc}, j < R.length → rat (new ++ R) j = rat R j
  | [], _ => rfl
  | r :: new, h => by
    simp only [List.cons_append, rat]
    rw [if_neg (by simp only [List.length_append]; omega)]
    exact rat_append h

/-- A part of a region, its order open. -/
theorem open_part (hC : COk C) {ops : Array Oper} {lo n d : Nat} (hback : backB ops = true) (hlon : lo < n) (hle : n ≤ ops.size) (hpiv : n = ops.size ∨ pivotB ops lo n = true) (hseg : segB ops (n - lo) lo (firstsA ops lo) = true)
    {Q : Exit → Act → World → Prop} {a : Act} {w : World} {env : Nat → Nat} {tm : TM} {mem : Mem} (hr : Rel C B w0 env tm mem a w) {k : TM → Mem → Out}
    (h : (openRun C ops mem.n ⟨mem.n + d, mem.t⟩ ((ops.toList.drop lo).take (n - lo)) lo tm ⟨mem.n + d, mem.t⟩ k).sat K)
    (hk : ∀ tm' mem' env' a' w', (k tm' mem').sat K → Rel C B w0 env' tm' mem' a' w' → Ext env mem.n env' mem'.n → wpAnyJ C.J .any ops Q (ops.size - n) (firstsA ops n) a' w') : wpAnyJ C.J .any ops Q (ops.size - lo) (firstsA ops lo) a w := by
  have hl : ((ops.toList.drop lo).take (n - lo)).length = n - lo := by simp; omega
  have k0 : Known ops env mem tm (mem.n + d) (dummies ops tm lo) tm ⟨mem.n + d, mem.t⟩ := ⟨rfl, rfl, fun env' t v he hs => dummies_slot hs, rfl, fun b ab hb => .inl hb⟩
  obtain ⟨R, tmE, memE, q1, q2, q3, q4⟩ := openRun_facts (B := B) (w0 := w0) (n := n) hC ((ops.toList.drop lo).take (n - lo)) lo tm _ (dummies ops tm lo) dummies_len (by rw [hl]; omega)
    (fun j hj => by
      rw [hl] at hj
      rw [List.getElem?_take, if_pos hj, List.getElem?_drop]
      simp) h k0
  rw [dummies_len] at q4
  have hdum : ∀ j r, j < lo → rat (R ++ dummies ops tm lo) j = some r → r.made = .no := fun j r hj hr => by
    rw [rat_append (by rw [dummies_len]; exact hj)] at hr
    exact dummies_made hr
  refine any_seg (n := n) (Iv := fun listed a w' => ∃ env', During C B w0 ops env mem tm (mem.n + d) w.heap.size (R ++ dummies ops tm lo) env' listed a w') hback hlon hle hpiv hseg ?_ (fun hpw listed i a' w' inv hlow hi hloi hin hJ =>
    During.step (lo := lo) q2 hpw hr.mem.base q4 hdum hlow hloi inv hi hin hJ) ?_
  · refine ⟨env, fun _ _ => rfl, firstsA_ok.1, hr.mem, hr.size, hr.defers, Nat.le_refl _, fun env2 hE t => ?_, fun i r hi hl b ab hn => ?_, fun i j ri rj b c x y hi hj hli hlj hni => ?_⟩
    · have h1 := AV.R_ext (m' := mem.n + d) ⟨Nat.le_add_right _ _, hE.1⟩ (hr.tmp t)
      refine slot_add (fun j hj1 hj2 _ => ?_) (slot_dummies h1)
      rw [dummies_len] at hj1
      rw [q2] at hj2
      show (firstsA ops lo).getD j false = false
      rw [(firstsA_ok (ops := ops) (n := lo)).2 j false (by omega)]
      exact decide_eq_false (by omega)
    · have hilt : i < lo := by
        have hi2 := rat_lt hi
        rw [q2] at hi2
        rw [(firstsA_ok (ops := ops) (n := lo)).2 i false (by omega)] at hl
        exact of_decide_eq_true hl
      rw [hdum i r hilt hi] at hn; exact hn.elim
    · have hilt : i < lo := by
        have hi2 := rat_lt hi
        rw [q2] at hi2
        rw [(firstsA_ok (ops := ops) (n := lo)).2 i false (by omega)] at hli
        exact of_decide_eq_true hli
      rw [hdum i ri hilt hi] at hni; exact hni.elim
  · intro a' w' ⟨env', hd⟩
    have hmr0 := hr.mem
    have allD : ∀ i r, rat (R ++ dummies ops tm lo) i = some r → (firstsA ops n).getD i false = true := fun i r hi => by
      have hlt := rat_lt hi
      rw [q2] at hlt
      rw [(firstsA_ok (ops := ops) (n := n)).2 i false (by omega)]
      exact decide_eq_true hlt
    have hx : Ext env mem.n env' (mem.n + d) := ⟨Nat.le_add_right _ _, hd.ag⟩
    have self : Agr mem.n (fun j => (firstsA ops n).getD j false) env' env' := ⟨fun _ _ => rfl, fun _ _ _ _ => rfl⟩
    refine hk tmE memE env' a' w' q1 ⟨hd.sz.trans q3.sz.symm, fun t => ?_, by rw [q3.df, q3.n]; exact hd.defers.ext hx, ?_⟩ (by rw [q3.n]; exact hx)
    · rw [q3.n]
      refine q3.slots env' t _ hd.ag (slot_same (fun j hj _ => ?_) (hd.slots env' self t))
      obtain ⟨_, r, _, _, _, hrat⟩ := rat_split hj
      exact allD j r hrat
    · have hN : memE.n = mem.n + d := q3.n
      have := MR.join (t := memE.t) hd.mr hx (fun b => ∃ j r ab, rat (R ++ dummies ops tm lo) j = some r ∧ r.made.new (mem.n + 4 * j) b ab) (fun b ab hg => ?_) (fun b ⟨j, r, x, hj, hn⟩ i ab hi hw => ?_) (fun b c ⟨j, rj, x, hj, hnj⟩ ⟨k, rk, y, hk, hnk⟩ hbc => hd.apart j k rj rk b c x y hj hk (allD j rj hj) (allD k rk hk) hnj hnk hbc)
      · rw [← hN] at this; exact this
      · rcases q3.blks b ab hg with h1 | ⟨j, r, hj, hn⟩
        · exact .inl h1
        · refine .inr ⟨⟨j, r, ab, hj, hn⟩, ?_, (hd.made j r hj (allD j r hj) b ab hn).2.2 env' self⟩
          obtain ⟨post, r', pre, hR, hpre, hrat⟩ := rat_split (rs := R ++ dummies ops tm lo) (i := j) (rat_lt hj)
          obtain rfl : r = r' := Option.some.inj (hj.symm.trans hrat)
          have hjl : lo ≤ j := by
            rcases Nat.lt_or_ge j lo with h | h
            · rw [hdum j r h hj] at hn; exact hn.elim
            · exact h
          subst hpre
          obtain ⟨_, _, _, hwd, h4, _⟩ := q4 post r pre hR hjl
          have := hwd (by intro e; rw [e] at hn; exact hn)
          have := (Made.new_in hn h4).2
          omega
      · have := (hd.made j r hj (allD j r hj) b x hn).1
        have := (AB.heap_lt (hmr0.blk i ab hi) hw).1
        omega

end
end Go.Ax
