import Derived.Test.YtbgneeokjhepcaaGreatDoorZ3
import Derived.ProofKit
import Derived.OpenShut
import Derived.Lib.LaidTab
import Derived.LaidMore
import Derived.Stop.LaidErr
import Derived.Stop.Joined
namespace Go.Ax
open Go Go.RowKit
section
variable {C : Cfg} {B : Nat → Prop} {w0 : World} {K : AV → Mem → Prop}
theorem CV.lt_ok {n : Nat} {c : CV} (h : c.lt n = true) : c.ok n := by
  cases c with
  | p b o => exact Nat.le_of_ble_eq_true h
  | r v => trivial
theorem CV.lt_conc {env env0 : Nat → Nat} {n : Nat} {c : CV} (h : c.lt n = true) (he : ∀ b, b < n → env b = env0 b) : c.conc env = c.conc env0 := by
  cases c with
  | p b o => simp only [CV.conc]; rw [he b (CV.lt_ok h)]
  | r v => rfl
theorem SV.R_lt {env env0 : Nat → Nat} {n m : Nat} (he : ∀ b, b < n → env b = env0 b) {s : SV} {v : Value} (h : s.R env m v) (hl : s.lt n = true) : s.R env0 n v := by
  have hb : ∀ b, Nat.blt b n = true → b < n ∧ env b = env0 b := fun b q => ⟨Nat.le_of_ble_eq_true q, he b (Nat.le_of_ble_eq_true q)⟩
  cases s with
  | any => trivial
  | li k x => exact h
  | si k x => exact h
  | lb x => exact h
  | sb x => exact h
  | raw x => exact h
  | ptr b o => obtain ⟨q1, q2⟩ := hb b hl; obtain ⟨_, rfl⟩ := h; exact ⟨q1, by simp only [SV.conc, q2]⟩
  | ptrS b o => obtain ⟨q1, q2⟩ := hb b hl; obtain ⟨_, rfl⟩ := h; exact ⟨q1, by simp only [SV.conc, q2]⟩
  | slice b o l c => obtain ⟨q1, q2⟩ := hb b hl; obtain ⟨h1, rfl⟩ := h; exact ⟨⟨q1, h1.2⟩, by simp only [SV.conc, q2]⟩
  | slx b o l => obtain ⟨q1, q2⟩ := hb b hl; obtain ⟨_, c, h1, h2, rfl⟩ := h; exact ⟨q1, c, h1, h2, by rw [q2]⟩
  | sq b g o l =>
    have hl : (Nat.blt b n && Nat.blt g n) = true := hl
    simp only [Bool.and_eq_true] at hl
    obtain ⟨q1, q2⟩ := hb b hl.1
    obtain ⟨q3, q4⟩ := hb g hl.2
    obtain ⟨_, o', h1, h2, h3, rfl⟩ := h
    rw [q4] at h1 h2 h3
    exact ⟨⟨q1, q3⟩, o', h1, h2, h3, by rw [q2, q4]⟩
  | ptrR b g o =>
    have hl : (Nat.blt b n && Nat.blt g n) = true := hl
    simp only [Bool.and_eq_true] at hl
    obtain ⟨q1, q2⟩ := hb b hl.1
    obtain ⟨q3, q4⟩ := hb g hl.2
    obtain ⟨_, rfl⟩ := h
    exact ⟨⟨q1, q3⟩, by simp only [SV.conc, q2, q4]⟩
  | slr b g o l =>
    have hl : (Nat.blt b n && Nat.blt g n) = true := hl
    simp only [Bool.and_eq_true] at hl
    obtain ⟨q1, q2⟩ := hb b hl.1
    obtain ⟨q3, q4⟩ := hb g hl.2
    obtain ⟨_, p, c, h1, h2, rfl, h3⟩ := h
    exact ⟨⟨q1, q3⟩, p, c, h1, h2, rfl, by rw [← q2, ← q4]; exact h3⟩
  | slq b o l => obtain ⟨q1, q2⟩ := hb b hl; obtain ⟨_, p, c, h1, h2, rfl, h3⟩ := h; exact ⟨q1, p, c, h1, h2, rfl, by rw [← q2]; exact h3⟩
  | e0 => exact h
  | st L => exact h
  | mp b =>
    have hb : b < n := Nat.le_of_ble_eq_true hl
    exact ⟨hb, by rw [h.2]; simp only [SV.conc]; rw [he b hb]⟩
  | yl b =>
    have hb : b < n := Nat.le_of_ble_eq_true hl
    exact ⟨hb, by rw [h.2]; simp only [SV.conc]; rw [he b hb]⟩
  | fnb f b o =>
    have hb : b < n := Nat.le_of_ble_eq_true hl
    exact ⟨hb, by rw [h.2]; simp only [SV.conc]; rw [he b hb]⟩
  | fn f caps =>
    obtain ⟨_, rfl⟩ := h
    have hc : ∀ c ∈ caps, c.lt n = true := List.all_eq_true.1 hl
    refine ⟨fun c hm => CV.lt_ok (hc c hm), ?_⟩
    simp only [SV.conc]
    rw [List.map_congr_left fun c hm => CV.lt_conc (hc c hm) he]
theorem all2_lt {env env0 : Nat → Nat} {n m : Nat} (he : ∀ b, b < n → env b = env0 b) : ∀ {l : List SV} {vs : List Value}, All2 (SV.R env m) l vs → l.all (SV.lt n) = true → All2 (SV.R env0 n) l vs
  | [], [], _, _ => trivial
  | s :: l, v :: vs, h, hl => by
    simp only [List.all_cons, Bool.and_eq_true] at hl
    exact ⟨SV.R_lt he h.1 hl.1, all2_lt he h.2 hl.2⟩
  | [], _ :: _, h, _ => h.elim
  | _ :: _, [], h, _ => h.elim
theorem TV.R_lt {env env0 : Nat → Nat} {n m : Nat} (he : ∀ b, b < n → env b = env0 b) {s : TV} {v : Value} (h : s.R env m v) (hl : s.lt n = true) : s.R env0 n v := by
  cases s with
  | one s => exact SV.R_lt he h hl
  | agg l => obtain ⟨vs, rfl, h2⟩ := h; exact ⟨vs, rfl, all2_lt he h2 hl⟩
theorem all2_ltT {env env0 : Nat → Nat} {n m : Nat} (he : ∀ b, b < n → env b = env0 b) : ∀ {l : List TV} {vs : List Value}, All2 (TV.R env m) l vs → l.all (TV.lt n) = true → All2 (TV.R env0 n) l vs
  | [], [], _, _ => trivial
  | s :: l, v :: vs, h, hl => by
    simp only [List.all_cons, Bool.and_eq_true] at hl
    exact ⟨TV.R_lt he h.1 hl.1, all2_ltT he h.2 hl.2⟩
  | [], _ :: _, h, _ => h.elim
  | _ :: _, [], h, _ => h.elim
theorem AV.R_lt {env env0 : Nat → Nat} {n m : Nat} (he : ∀ b, b < n → env b = env0 b) {s : AV} {v : Value} (h : s.R env m v) (hl : s.lt n = true) : s.R env0 n v := by
  cases s with
  | one s => exact SV.R_lt he h hl
  | agg l => obtain ⟨vs, rfl, h2⟩ := h; exact ⟨vs, rfl, all2_lt he h2 hl⟩
  | tup l => obtain ⟨vs, rfl, h2⟩ := h; exact ⟨vs, rfl, all2_ltT he h2 hl⟩
inductive Made where
  | no
  | cells (t : TypeId) (cs : List SV)
  | res (r : RS)
structure Rc where
  v : AV
  made : Made
def Made.new (n : Nat) : Made → Nat → AB → Prop
  | .no, _, _ => False
  | .cells t cs, b, ab => b = n ∧ ab = .cells t cs
  | .res r, b, ab => newRC n r.cells b ab
def dstOf (ops : Array Oper) (i : Nat) : Option Tmp := (ops[i]?).bind (·.dst)
def slot (ops : Array Oper) (env : Nat → Nat) (N : Nat) (tm0 : TM) (D : Nat → Bool) (t : Tmp) (v : Value) : List Rc → Prop
  | [] => (tm0.get t).R env N v
  | r :: rs => (D rs.length = true → dstOf ops rs.length = some t → r.v.R env N v) ∧ (¬(D rs.length = true ∧ dstOf ops rs.length = some t) → slot ops env N tm0 D t v rs)
def Agr (n0 : Nat) (D : Nat → Bool) (env env' : Nat → Nat) : Prop := (∀ b, b < n0 → env' b = env b) ∧ ∀ j, D j = true → ∀ x, x < 4 → env' (n0 + 4 * j + x) = env (n0 + 4 * j + x)
def rat : List Rc → Nat → Option Rc
  | [], _ => none
  | r :: rs, i => if i = rs.length then some r else rat rs i
theorem rat_lt : ∀ {rs : List Rc} {i : Nat} {r : Rc}, rat rs i = some r → i < rs.length
  | q :: rs, i, r, h => by
    simp only [rat] at h
    split at h
    · simp only [List.length_cons]; omega
    · have := rat_lt h; simp only [List.length_cons]; omega
section
variable {ops : Array Oper} {N : Nat} {tm0 : TM} {D D' : Nat → Bool} {env : Nat → Nat} {t : Tmp} {v : Value}
theorem slot_same : ∀ {rs : List Rc}, (∀ j, j < rs.length → dstOf ops j = some t → D j = D' j) → slot ops env N tm0 D t v rs → slot ops env N tm0 D' t v rs
  | [], _, h => h
  | r :: rs, hd, h => by
    refine ⟨fun h1 h2 => ?_, fun hn => ?_⟩
    · exact h.1 (by rw [hd rs.length (by simp) h2]; exact h1) h2
    · refine slot_same (fun j hj => hd j (by simp only [List.length_cons]; omega)) (h.2 fun hq => hn ⟨?_, hq.2⟩)
      rw [← hd rs.length (by simp) hq.2]; exact hq.1
theorem slot_drop : ∀ {new rs : List Rc}, (∀ j, rs.length ≤ j → j < (new ++ rs).length → dstOf ops j = some t → D j = false) → slot ops env N tm0 D t v (new ++ rs) → slot ops env N tm0 D t v rs
  | [], _, _, h => h
  | r :: new, rs, hd, h => by
    refine slot_drop (fun j h1 h2 => hd j h1 (by simp only [List.cons_append, List.length_cons]; omega)) (h.2 fun hq => ?_)
    have := hd (new ++ rs).length (by simp) (by simp) hq.2
    exact Bool.noConfusion (hq.1.symm.trans this)
theorem slot_add : ∀ {new rs : List Rc}, (∀ j, rs.length ≤ j → j < (new ++ rs).length → dstOf ops j = some t → D j = false) → slot ops env N tm0 D t v rs → slot ops env N tm0 D t v (new ++ rs)
  | [], _, _, h => h
  | r :: new, rs, hd, h => by
    refine ⟨fun h1 h2 => ?_, fun _ => slot_add (fun j h1 h2 => hd j h1 (by simp only [List.cons_append, List.length_cons]; omega)) h⟩
    have := hd (new ++ rs).length (by simp) (by simp) h2
    exact Bool.noConfusion (h1.symm.trans this)
theorem rat_split : ∀ {rs : List Rc} {i : Nat}, i < rs.length → ∃ post r pre, rs = post ++ r :: pre ∧ pre.length = i ∧ rat rs i = some r
  | r :: rs, i, h => by
    by_cases hi : i = rs.length
    · exact ⟨[], r, rs, rfl, hi.symm, by simp [rat, hi]⟩
    · simp only [List.length_cons] at h
      obtain ⟨post, r', pre, h1, h2, h3⟩ := rat_split (rs := rs) (i := i) (by omega)
      exact ⟨r :: post, r', pre, by rw [h1]; rfl, h2, by simp only [rat, if_neg hi]; exact h3⟩
end
theorem MR.widen {env env' : Nat → Nat} {mem : Mem} {w : World} {N : Nat} (h : MR C B w0 env mem w) (he : ∀ b, b < mem.n → env' b = env b) (hN : mem.n ≤ N) : MR C B w0 env' ⟨N, mem.t⟩ w := by
  have hx : Ext env mem.n env' N := ⟨hN, he⟩
  refine ⟨h.below, h.base, fun i ab hi => Nat.lt_of_lt_of_le (h.lt i ab hi) hN, fun i ab hi => ?_, fun i j a b hi hj hij ha hb => ?_, fun p hp => ?_, h.gd⟩
  · rw [he i (h.lt i ab hi)]
    exact AB.R_ext hx (h.blk i ab hi)
  · rw [he i (h.lt i a hi), he j (h.lt j b hj)]
    exact h.sep i j a b hi hj hij ha hb
  · obtain ⟨h1, h2⟩ := h.gl p hp
    exact ⟨by rw [he _ h2]; exact h1, Nat.lt_of_lt_of_le h2 hN⟩
theorem only_get {tm : TM} : ∀ {l : List Nat} {t : Nat} {x : AV}, (tm.only l).get t = some x → t ∈ l ∧ tm.get t = x
  | [], t, x, h => by simp only [TM.only] at h; rw [Tr.get_mk] at h; cases h
  | u :: l, t, x, h => by
    simp only [TM.only] at h
    split at h
    · rename_i v hv
      by_cases hut : u = t
      · subst hut
        rw [Tr.get_set_eq _ _ _ _ h]
        exact ⟨List.mem_cons_self .., by simp only [TM.get, hv]⟩
      · rw [Tr.get_set_ne _ _ _ _ hut] at h
        obtain ⟨q1, q2⟩ := only_get h
        exact ⟨List.mem_cons_of_mem _ q1, q2⟩
    · obtain ⟨q1, q2⟩ := only_get h
      exact ⟨List.mem_cons_of_mem _ q1, q2⟩
theorem buildRC_sound {o : Oper} {env : Nat → Nat} {tm : TM} {mem : Mem} {a : Act} {w : World} {r : RS} (hr : Rel C B w0 env tm mem a w) (h : buildRC C o tm = some r) :
    ∃ v w', (execOp a.eval o).run C.P w = .ok (.value v) w' ∧ Below w.heap.size w w' ∧ r.Holds w' w.heap.size v := by
  unfold buildRC at h
  unfold execOp
  split at h
  · rename_i t len parts ho
    simp only [ho]
    split at h
    · rename_i ps v m e0 k by8 hb he
      split at h
      · rename_i e l hg
        split at h
        · rename_i L hL
          cases h
          obtain ⟨e', l', ws, q1, _, q2, q3, q4, q5⟩ := buildSlice_core (P := C.P) (w := w) (env := env) (m := mem.n) (vparts := parts.toList.map fun p => (p.1, a.eval p.2)) hb (All2.both _ _ _ fun p _ => ⟨rfl, ev_R hr p.2⟩)
          subst q1
          have hg : AB.cells e' l' = AB.cells e l := by
            have := Tr.get_set_eq _ _ _ _ hg
            exact this.symm
          cases hg
          obtain ⟨h1, h2⟩ := intsOf_R hL q4
          have hlen : L.length = len := by
            have h3 : ws.length = L.length := by rw [h1, List.length_map]
            have h4 := q4.length
            omega
          have e1 : (parts.toList.map fun p => (p.1, a.eval p.2)).toArray = parts.map fun (i, x) => (i, a.eval x) := by apply Array.ext'; simp
          rw [e1] at q5
          refine ⟨_, _, (by simp only [Sem.run_bind, q5, Result.andThen_ok, Sem.run_pure]; rfl), (Below.refl _ _).alloc (Nat.le_refl _) _, [_], [w.heap.size], rfl, ⟨[w.heap.size], [], by simp, ⟨w.heap.size, 0, [], rfl, Nat.le_refl _, .inl rfl, (by rw [List.length_nil]; omega), ?_, ?_, h2⟩, rfl⟩, (by simp)⟩
          · rw [List.length_nil, hlen]; rfl
          · rw [List.append_nil, ← h1]
            show (w.heap.push _)[w.heap.size]? = _
            exact Array.getElem?_push_size
        · cases h
      · cases h
    · cases h
  · cases h
theorem makeRC_sound {o : Oper} {env : Nat → Nat} {tm : TM} {mem : Mem} {a : Act} {w : World} {ps : List Cnd} {r : RS} (hr : Rel C B w0 env tm mem a w) (h : makeRC C o tm = some (ps, r)) (hp : allP ps) :
    ∃ v w', (execOp a.eval o).run C.P w = .ok (.value v) w' ∧ Below w.heap.size w w' ∧ r.Holds w' w.heap.size v := by
  unfold makeRC at h
  unfold execOp
  split at h
  · cases h
  · split at h
    · rename_i t n c ho
      simp only [ho]
      split at h
      · rename_i e k by8 l cc he hl hcc
        cases h
        obtain ⟨hvn, hkl⟩ := num_val hl (ev_R hr n)
        obtain ⟨hvc, hkc⟩ := num_val hcc (ev_R hr c)
        obtain ⟨hu, hk, i, z, hi, hz, hsz, hby, hzc, h0⟩ := elemQ_spec he
        have p1 : 0 ≤ l := hp.1
        have p2 : l ≤ cc := hp.2.1
        have p3 : (by8 : Int) * cc ≤ 140737488355328 := hp.2.2.1
        have p4 : cc ≤ 9223372036854775807 := hp.2.2.2.1
        have hwl : IntKind.i64.wrap l = l := wrap_ok hkl
        have hwc : IntKind.i64.wrap cc = cc := wrap_ok hkc
        have hrun : (Instr.makeSlice t (.int .i64 l) (.int .i64 cc)).run C.P w = .ok (.slice (some ⟨w.heap.size, 0, none⟩) l.toNat cc.toNat) (w.alloc (.cells (List.replicate cc.toNat (Value.int k 0)).toArray e)) := by
          have t1 : ¬ (((cc < 0 ∨ 281474976710656 < (by8 : Int) * cc) ∨ l < 0) ∨ cc < l) := by omega
          have t4 : ¬ (roomBytes < cc.toNat * by8) := by
            have e0 : (cc.toNat * by8 : Nat) = by8 * cc.toNat := Nat.mul_comm _ _
            have e1 : ((by8 * cc.toNat : Nat) : Int) = (by8 : Int) * cc := by rw [Int.natCast_mul]; congr 1; omega
            have e2 : roomBytes = 140737488355328 := by decide
            omega
          by_cases hz0 : cc.toNat = 0
          · have hz1 : cc ≤ 0 := by omega
            simp [Instr.makeSlice, run_underlying hu, asInt, asIntOf, typeInfo, sizeOf, hi, hby, hwl, hwc, t1, askRoom, hz0, newRow]
            congr 2
            apply Array.ext'
            simp
          · have hz1 : ¬ cc ≤ 0 := by omega
            simp [Instr.makeSlice, run_underlying hu, asInt, asIntOf, typeInfo, sizeOf, zeroValue, hi, hz, hby, hwl, hwc, t1, askRoom, hsz, hz0, newRow, hzc]
            congr 2
            apply Array.ext'
            simp [Nat.mod_one, List.map_const']
        refine ⟨_, _, (by simp only [hvn, hvc, Sem.run_bind, hrun, Result.andThen_ok, Sem.run_pure]; rfl), (Below.refl _ _).alloc (Nat.le_refl _) _, [_], [w.heap.size], rfl, ⟨[w.heap.size], [], by simp, ⟨w.heap.size, 0, List.replicate (cc.toNat - l.toNat) (Value.int k 0), rfl, Nat.le_refl _, .inl rfl, ?_, ?_, ?_, ?_⟩, rfl⟩, (by simp)⟩
        · simp; omega
        · have e1 : (List.replicate l.toNat (0 : Int)).length = l.toNat := by simp
          have e2 : (List.replicate l.toNat (0 : Int)).length + (List.replicate (cc.toNat - l.toNat) (Value.int k 0)).length = cc.toNat := by simp; omega
          rw [e2, e1]
        · show (w.heap.push _)[w.heap.size]? = _
          rw [Array.getElem?_push_size, List.map_replicate, List.replicate_append_replicate]
          congr 4
          omega
        · intro x hx; rw [List.eq_of_mem_replicate hx]; exact h0
      · cases h
    · cases h
theorem makeRC_callV {o : Oper} {tm : TM} {x : List Cnd × RS} (h : makeRC C o tm = some x) : isCallV o = false := by
  unfold makeRC at h
  unfold isCallV
  split at h
  · cases h
  · split at h
    · rename_i ho; rw [ho]
    · cases h
theorem makeOp_sound {o : Oper} {env : Nat → Nat} {tm : TM} {mem : Mem} {a : Act} {w : World} {t : TypeId} {cs : List SV} (hr : Rel C B w0 env tm mem a w) (h : makeOp C o tm = some (t, cs)) :
    ∃ vs : List Value, All2 (SV.R env mem.n) cs vs ∧ (execOp a.eval o).run C.P w = .ok (.value (.pointer (some ⟨w.heap.size, 0, none⟩))) (w.alloc (.cells vs.toArray t)) := by
  unfold makeOp at h
  unfold execOp
  split at h
  · rename_i t' ho
    simp only [ho]
    split at h
    · rename_i z hz
      cases h
      obtain ⟨zv, h1, h2⟩ := zeroA_R (P := C.P) (w := w) (env := env) (m := mem.n) hz
      exact ⟨_, h2, by simp [Instr.alloc, h1, newVar, newRow]⟩
    · cases h
  · rename_i t' x ho
    simp only [ho]
    split at h
    · rename_i cs' hcs
      cases h
      exact ⟨_, cellsA_R hcs (ev_R hr x), by simp [Instr.box, newVar, newRow]⟩
    · cases h
  · cases h
theorem wpOpJ_value {P : Program} {J : Judg P} {ops : Array Oper} {Q : Exit → Act → World → Prop} {Kq : Act → World → Prop} {i : Nat} {o : Oper} {a : Act} {w : World} (hi : ops[i]? = some o) (hw : Region.wanted o (yielded ops a.tmps) = true)
    (hns : 1 ≤ J.lvl → NS J.lvl P (execOp a.eval o)) (hv : ∀ w1, J.rel w w1 → ∃ v w', (execOp a.eval o).run P w1 = .ok (.value v) w' ∧ Kq (a.put o.dst v) w') : wpOpJ J ops Q i Kq a w := by
  unfold wpOpJ
  simp only [hi, hw, if_true]
  refine ⟨hns, fun w1 h1 => ?_⟩
  obtain ⟨v, w', h2, h3⟩ := hv w1 h1
  rw [h2]
  exact h3
theorem wpOpJ_call {P : Program} {J : Judg P} {ops : Array Oper} {Q : Exit → Act → World → Prop} {Kq : Act → World → Prop} {i : Nat} {o : Oper} {f : Nat} {args : Array Value} {a : Act} {w : World} (hi : ops[i]? = some o) (hw : Region.wanted o (yielded ops a.tmps) = true)
    (hns : 1 ≤ J.lvl → NS J.lvl P (execOp a.eval o)) (hv : ∀ w1, J.rel w w1 → (execOp a.eval o).run P w1 = .ok (.enter f args) w1 ∧ CallsJ J f args w1 fun e w'' => ∃ v, e = .returned v ∧ Kq (a.put o.dst v) w'') : wpOpJ J ops Q i Kq a w := by
  unfold wpOpJ
  simp only [hi, hw, if_true]
  refine ⟨hns, fun w1 h1 => ?_⟩
  obtain ⟨h2, h3⟩ := hv w1 h1
  rw [h2]
  exact h3.mono fun e w'' ⟨v, he, hK⟩ => by subst he; exact hK
theorem wpOpJ_skip {P : Program} {J : Judg P} {ops : Array Oper} {Q : Exit → Act → World → Prop} {Kq : Act → World → Prop} {i : Nat} {o : Oper} {a : Act} {w : World} (hi : ops[i]? = some o) (hw : Region.wanted o (yielded ops a.tmps) = false)
    (h : Kq (a.put o.dst undef) w) : wpOpJ J ops Q i Kq a w := by
  unfold wpOpJ
  simp only [hi, hw, Bool.false_eq_true, if_false]
  exact h
theorem guarded_known {ops : Array Oper} {o : Oper} {tm : TM} {yes no : TM → Out} (h : (guarded ops.toList o tm yes no).sat K) :
    ∃ (tm' : TM) (b : Bool), (tm'.sz = tm.sz ∧ tm'.df = tm.df) ∧ (∀ t env m v, (tm.get t).R env m v → (tm'.get t).R env m v) ∧ (match b with | true => (yes tm').sat K | false => (no tm').sat K) ∧
      ∀ env m (a : Act), (∀ t ∈ o.looksAt ops, (tm.get t).R env m (a.tmps.getD t undef)) → Region.wanted o (yielded ops a.tmps) = b := by
  unfold guarded at h
  unfold Region.wanted
  cases hg : o.guard with
  | none => rw [hg] at h; exact ⟨tm, true, ⟨rfl, rfl⟩, fun _ _ _ _ h => h, h, fun _ _ _ _ => rfl⟩
  | some p =>
    obtain ⟨j, want⟩ := p
    rw [hg] at h
    dsimp only at h ⊢
    rw [Array.getElem?_toList] at h
    cases hd : (ops[j]?).bind (·.dst) with
    | none => rw [hd] at h; exact h.elim
    | some t =>
      rw [hd] at h
      dsimp only at h
      have hlook : t ∈ o.looksAt ops := by simp [Oper.looksAt, hg, hd]
      have hy : ∀ b, ((tm.get t).bool = .l b ∨ (tm.get t).bool = .s b) → ∀ env m (a : Act), (∀ t ∈ o.looksAt ops, (tm.get t).R env m (a.tmps.getD t undef)) → yielded ops a.tmps j = some b := fun b hb env m a ht => by
        have hv := bool_val hb (ht t hlook)
        have hlt : t < a.tmps.size := by
          rcases Nat.lt_or_ge t a.tmps.size with h | h
          · exact h
          · simp [Array.getElem?_eq_none h, undef] at hv
        have hv' : a.tmps[t]? = some (.bool b) := by
          rw [Array.getElem?_eq_getElem hlt]
          congr 1
          simpa [hlt] using hv
        unfold yielded
        rw [hd]
        simp [hv']
      have hlit : ∀ x, (tm.get t).bool = .s x → ∀ u env m v, (tm.get u).R env m v → ((tm.set t (.one (.lb x))).get u).R env m v := fun x hx u env m v hv => by
        unfold TM.set
        split
        · simp only [TM.get]
          by_cases htu : t = u
          · subst htu
            cases hq : (tm.t.set t (.one (.lb x))).get t with
            | none => trivial
            | some y => rw [Tr.get_set_eq _ _ _ _ hq]; exact ⟨trivial, bool_val (.inr hx) hv⟩
          · rw [Tr.get_set_ne _ _ _ _ htu]; exact hv
        · exact hv
      cases hb : (tm.get t).bool with
      | no =>
        rw [hb] at h
        dsimp only at h
        split at h
        · rename_i l hl
          refine ⟨tm, false, ⟨rfl, rfl⟩, fun _ _ _ _ h => h, h, fun env m a ht => ?_⟩
          have hv := ht t hlook
          rw [hl] at hv
          obtain ⟨vs, hv, _⟩ := hv
          rw [yielded_tuple (j := j) hd hv]
          rfl
        · exact h.elim
      | l x =>
        rw [hb] at h
        dsimp only at h
        refine ⟨tm, x == want, ⟨rfl, rfl⟩, fun _ _ _ _ h => h, ?_, fun env m a ht => ?_⟩
        · cases hq : (x == want) <;> rw [hq] at h <;> exact h
        · rw [hy x (.inl hb) env m a ht]
          cases x <;> cases want <;> rfl
      | s x =>
        rw [hb] at h
        dsimp only at h
        cases want with
        | true =>
          dsimp only at h
          cases x with
          | true => exact ⟨tm.set t (.one (.lb true)), true, ⟨set_sz _ _ _, set_df _ _ _⟩, hlit _ hb, h.1 rfl, fun env m a ht => by rw [hy true (.inr hb) env m a ht]; rfl⟩
          | false => exact ⟨tm.set t (.one (.lb false)), false, ⟨set_sz _ _ _, set_df _ _ _⟩, hlit _ hb, h.2 rfl, fun env m a ht => by rw [hy false (.inr hb) env m a ht]; rfl⟩
        | false =>
          dsimp only at h
          cases x with
          | true => exact ⟨tm.set t (.one (.lb true)), false, ⟨set_sz _ _ _, set_df _ _ _⟩, hlit _ hb, h.1 rfl, fun env m a ht => by rw [hy true (.inr hb) env m a ht]; rfl⟩
          | false => exact ⟨tm.set t (.one (.lb false)), true, ⟨set_sz _ _ _, set_df _ _ _⟩, hlit _ hb, h.2 rfl, fun env m a ht => by rw [hy false (.inr hb) env m a ht]; rfl⟩
def Fact (C : Cfg) (B : Nat → Prop) (w0 : World) (ops : Array Oper) (env0 : Nat → Nat) (mem0 : Mem) (tm0 : TM) (N i : Nat) (o : Oper) (r : Rc) (pre : List Rc) : Prop :=
  ∀ (Q : Exit → Act → World → Prop) (E : (Nat → Nat) → Prop) (env : Nat → Nat) (a : Act) (w : World), E env → (∀ env, E env → ∀ b, b < mem0.n → env b = env0 b) → MR C B w0 env0 mem0 w → a.tmps.size = tm0.sz → Dfs env0 mem0.n tm0.df a.defers →
    (∀ env, E env → ∀ t ∈ o.looksAt ops, slot ops env N tm0 (fun _ => true) t (a.tmps.getD t undef) pre) →
    match r.made with
    | .no => ∀ Kq : Act → World → Prop, (∀ w1, C.J.rel w w1 → ∀ val w', (∀ env, E env → r.v.R env N val) → Below w1.heap.size w1 w' → Kq (a.put o.dst val) w') → wpOpJ C.J ops Q i Kq a w
    | .cells t cs => r.v = .one (.ptr (mem0.n + 4 * i) 0) ∧ ∀ Kq : Act → World → Prop, (∀ w1, C.J.rel w w1 → ∀ vs : List Value, All2 (SV.R env0 mem0.n) cs vs → Kq (a.put o.dst (.pointer (some ⟨w1.heap.size, 0, none⟩))) (w1.alloc (.cells vs.toArray t))) → wpOpJ C.J ops Q i Kq a w
    | .res q => r.v = q.val (mem0.n + 4 * i) ∧ ∀ Kq : Act → World → Prop, (∀ w1, C.J.rel w w1 → ∀ val w', q.Holds w' w1.heap.size val → Below w1.heap.size w1 w' → Kq (a.put o.dst val) w') → wpOpJ C.J ops Q i Kq a w
structure Known (ops : Array Oper) (env0 : Nat → Nat) (mem0 : Mem) (tm0 : TM) (N : Nat) (rs : List Rc) (tm : TM) (mem : Mem) : Prop where
  sz : tm.sz = tm0.sz
  df : tm.df = tm0.df
  slots : ∀ env t v, (∀ b, b < mem0.n → env b = env0 b) → slot ops env N tm0 (fun _ => true) t v rs → (tm.get t).R env N v
  n : mem.n = N
  blks : ∀ b ab, mem.get b = some ab → mem0.get b = some ab ∨ ∃ j r, rat rs j = some r ∧ r.made.new (mem0.n + 4 * j) b ab
theorem Known.put {ops : Array Oper} {env0 : Nat → Nat} {mem0 : Mem} {tm0 : TM} {N : Nat} {rs : List Rc} {tm : TM} {mem : Mem} {o : Oper} (h : Known ops env0 mem0 tm0 N rs tm mem) (ho : ops[rs.length]? = some o) (hin : inSz tm o.dst = true)
    (r : Rc) {mem' : Mem} (hn : mem'.n = N) (hm : ∀ b ab, mem'.get b = some ab → mem.get b = some ab ∨ r.made.new (mem0.n + 4 * rs.length) b ab) : Known ops env0 mem0 tm0 N (r :: rs) (putA tm o.dst r.v) mem' := by
  have hdst : dstOf ops rs.length = o.dst := by simp [dstOf, ho]
  refine ⟨?_, ?_, fun env t v he hs => ?_, hn, fun b ab hb => ?_⟩
  · unfold putA
    split
    · rw [set_sz]; exact h.sz
    · exact h.sz
  · unfold putA
    split
    · rw [set_df]; exact h.df
    · exact h.df
  · by_cases ht : o.dst = some t
    · have := hs.1 rfl (hdst.trans ht)
      rw [ht]
      simp only [putA]
      unfold TM.set
      split
      · simp only [TM.get]
        cases hq : (tm.t.set t r.v).get t with
        | none => trivial
        | some y => rw [Tr.get_set_eq _ _ _ _ hq]; exact this
      · rename_i hb
        rw [ht] at hin
        simp only [inSz] at hin
        rw [hin] at hb
        cases hb
    · have hs' := hs.2 fun q => ht (hdst.symm.trans q.2)
      have := h.slots env t v he hs'
      unfold putA
      split
      · rename_i d hd
        unfold TM.set
        split
        · simp only [TM.get]
          rw [Tr.get_set_ne _ _ _ _ (fun e => ht (by rw [hd, e]))]
          exact this
        · exact this
      · exact this
  · rcases hm b ab hb with h1 | h1
    · rcases h.blks b ab h1 with h2 | ⟨j, r', h3, h4⟩
      · exact .inl h2
      · refine .inr ⟨j, r', ?_, h4⟩
        have := rat_lt h3
        simp only [rat, if_neg (show j ≠ rs.length by omega)]
        exact h3
    · exact .inr ⟨rs.length, r, by simp [rat], h1⟩
theorem Known.refine {ops : Array Oper} {env0 : Nat → Nat} {mem0 : Mem} {tm0 : TM} {N : Nat} {rs : List Rc} {tm tm' : TM} {mem : Mem} (h : Known ops env0 mem0 tm0 N rs tm mem) (hs : tm'.sz = tm.sz ∧ tm'.df = tm.df)
    (ht : ∀ t env m v, (tm.get t).R env m v → (tm'.get t).R env m v) : Known ops env0 mem0 tm0 N rs tm' mem :=
  ⟨hs.1.trans h.sz, hs.2.trans h.df, fun env t v he q => ht t env N v (h.slots env t v he q), h.n, h.blks⟩
def Facts (C : Cfg) (B : Nat → Prop) (w0 : World) (ops : Array Oper) (env0 : Nat → Nat) (mem0 : Mem) (tm0 : TM) (N lo : Nat) (R : List Rc) : Prop :=
  ∀ post r pre, R = post ++ r :: pre → lo ≤ pre.length → ∃ o, ops[pre.length]? = some o ∧ (∀ t, o.dst = some t → t < tm0.sz) ∧ (r.made ≠ .no → mem0.n + 4 * pre.length + 4 ≤ N) ∧ (∀ q, r.made = .res q → widRC q.cells ≤ 4) ∧ Fact C B w0 ops env0 mem0 tm0 N pre.length o r pre
theorem buildRC_callV {o : Oper} {tm : TM} {x : RS} (h : buildRC C o tm = some x) : isCallV o = false := by
  unfold buildRC at h
  unfold isCallV
  split at h
  · rename_i ho; rw [ho]
  · cases h
theorem makeOp_callV {o : Oper} {tm : TM} {x : TypeId × List SV} (h : makeOp C o tm = some x) : isCallV o = false := by
  unfold makeOp at h
  unfold isCallV
  cases ho : o.op <;> rw [ho] at h <;> first | rfl | cases h
theorem openRun_facts (hC : COk C) {ops : Array Oper} {env0 : Nat → Nat} {mem0 : Mem} {tm0 : TM} {n d : Nat} {k : TM → Mem → Out} : ∀ (l : List Oper) (i : Nat) (tm : TM) (mem : Mem) (rs : List Rc), rs.length = i → i + l.length = n →
    (∀ j, j < l.length → l[j]? = ops[i + j]?) → (openRun C ops mem0.n ⟨mem0.n + d, mem0.t⟩ l i tm mem k).sat K → Known ops env0 mem0 tm0 (mem0.n + d) rs tm mem →
    ∃ new tmE memE, (k tmE memE).sat K ∧ (new ++ rs).length = n ∧ Known ops env0 mem0 tm0 (mem0.n + d) (new ++ rs) tmE memE ∧ Facts C B w0 ops env0 mem0 tm0 (mem0.n + d) rs.length (new ++ rs)
  | [], i, tm, mem, rs, hi, hn, _, h, hk => by
    refine ⟨[], tm, mem, h, by simpa [hi] using hn, hk, fun post r pre he hle => ?_⟩
    have := congrArg List.length he
    simp only [List.nil_append, List.length_append, List.length_cons] at this
    omega
  | o :: rest, i, tm, mem, rs, hi, hn, hl, h, hk => by
    subst hi
    have ho : ops[rs.length]? = some o := by simpa using (hl 0 (by simp)).symm
    simp only [openRun] at h
    split at h
    · exact h.elim
    rename_i hin
    obtain ⟨tm1, b, hsz1, href, hb, hwant⟩ := guarded_known h
    have hk1 := hk.refine hsz1 href
    have hin1 : inSz tm1 o.dst = true := by
      cases hd : o.dst with
      | none => rfl
      | some d => rw [hd] at hin; simp only [inSz, hsz1.1] at hin ⊢; exact hin
    have hin0 : ∀ t, o.dst = some t → t < tm0.sz := fun t ht => by
      rw [ht] at hin
      simp only [inSz, hk.sz] at hin
      exact Nat.le_of_ble_eq_true hin
    have next : ∀ (r : Rc) (mem' : Mem), (openRun C ops mem0.n ⟨mem0.n + d, mem0.t⟩ rest (rs.length + 1) (putA tm1 o.dst r.v) mem' k).sat K → mem'.n = mem0.n + d →
        (∀ b ab, mem'.get b = some ab → mem.get b = some ab ∨ r.made.new (mem0.n + 4 * rs.length) b ab) → (r.made ≠ .no → mem0.n + 4 * rs.length + 4 ≤ mem0.n + d) → (∀ q, r.made = .res q → widRC q.cells ≤ 4) →
        Fact C B w0 ops env0 mem0 tm0 (mem0.n + d) rs.length o r rs →
        ∃ new tmE memE, (k tmE memE).sat K ∧ (new ++ rs).length = n ∧ Known ops env0 mem0 tm0 (mem0.n + d) (new ++ rs) tmE memE ∧ Facts C B w0 ops env0 mem0 tm0 (mem0.n + d) rs.length (new ++ rs) := by
      intro r mem' h' hn' hm hwd hw4 hf
      obtain ⟨new, tmE, memE, q1, q2, q3, q4⟩ := openRun_facts (n := n) hC rest (rs.length + 1) _ mem' (r :: rs) rfl (by simp only [List.length_cons] at hn; omega)
        (fun j hj => by have := hl (j + 1) (by simp only [List.length_cons]; omega); simpa [Nat.add_assoc, Nat.add_comm 1 j] using this) h' (hk1.put ho hin1 r hn' hm)
      have e : new ++ r :: rs = (new ++ [r]) ++ rs := by simp
      rw [e] at q2 q3 q4
      refine ⟨new ++ [r], tmE, memE, q1, q2, q3, fun post r' pre he hle => ?_⟩
      by_cases hlt : (r :: rs).length ≤ pre.length
      · exact q4 post r' pre he hlt
      · have hlen : pre.length = rs.length := by simp only [List.length_cons] at hlt; omega
        have hinj := List.append_inj_right' (s₁ := new ++ [r]) (s₂ := post ++ [r']) (t₁ := rs) (t₂ := pre) (by simpa using he) hlen.symm
        have hinj2 := List.append_inj_left' (s₁ := new ++ [r]) (s₂ := post ++ [r']) (t₁ := rs) (t₂ := pre) (by simpa using he) hlen.symm
        have hr : r = r' := by
          have := congrArg List.getLast? hinj2
          simpa using this
        subst hinj; subst hr
        exact ⟨o, ho, hin0, hwd, hw4, hf⟩
    -- the frame, as far as the operation looks at it
    have view : ∀ (env : Nat → Nat) (a : Act) (w : World), (∀ b, b < mem0.n → env b = env0 b) → MR C B w0 env0 mem0 w → a.tmps.size = tm0.sz → Dfs env0 mem0.n tm0.df a.defers →
        (∀ t ∈ o.looksAt ops, slot ops env (mem0.n + d) tm0 (fun _ => true) t (a.tmps.getD t undef) rs) →
        Rel C B w0 env ⟨tm1.sz, tm1.only (o.looksAt ops), tm1.df⟩ ⟨mem0.n + d, mem0.t⟩ a w := fun env a w he hm hs hd hsl => by
      refine ⟨hs.trans hk1.sz.symm, fun t => ?_, by rw [hk1.df]; exact hd.ext ⟨Nat.le_add_right _ _, he⟩, hm.widen he (Nat.le_add_right _ _)⟩
      show AV.R env (mem0.n + d) (match (tm1.only (o.looksAt ops)).get t with | some v => v | none => .any) _
      cases hq : (tm1.only (o.looksAt ops)).get t with
      | none => trivial
      | some x =>
        obtain ⟨h1, h2⟩ := only_get hq
        subst h2
        exact hk1.slots env t _ he (hsl t h1)
    have wants : ∀ (env : Nat → Nat) (a : Act), (∀ b, b < mem0.n → env b = env0 b) → (∀ t ∈ o.looksAt ops, slot ops env (mem0.n + d) tm0 (fun _ => true) t (a.tmps.getD t undef) rs) →
        Region.wanted o (yielded ops a.tmps) = b := fun env a he hsl => hwant env (mem0.n + d) a fun t ht => hk.slots env t _ he (hsl t ht)
    have wide : ∀ {x : AV} {env : Nat → Nat} {v : Value}, (∀ b, b < mem0.n → env b = env0 b) → x.R env0 mem0.n v → x.R env (mem0.n + d) v := fun he hv => AV.R_ext ⟨Nat.le_add_right _ _, he⟩ hv
    -- a value that is the same whatever the numbers of what was made
    have plain : ∀ (x : AV) (mem' : Mem), mem' = mem → (openRun C ops mem0.n ⟨mem0.n + d, mem0.t⟩ rest (rs.length + 1) (putA tm1 o.dst x) mem' k).sat K →
        (∀ (env : Nat → Nat) (a : Act) (w : World), Rel C B w0 env ⟨tm1.sz, tm1.only (o.looksAt ops), tm1.df⟩ ⟨mem0.n + d, mem0.t⟩ a w → (1 ≤ C.J.lvl → NS C.J.lvl C.P (execOp a.eval o)) ∧ ∃ val, (execOp a.eval o).run C.P w = .ok (.value val) w ∧ x.R env (mem0.n + d) val) → b = true →
        ∃ new tmE memE, (k tmE memE).sat K ∧ (new ++ rs).length = n ∧ Known ops env0 mem0 tm0 (mem0.n + d) (new ++ rs) tmE memE ∧ Facts C B w0 ops env0 mem0 tm0 (mem0.n + d) rs.length (new ++ rs) := by
      rintro x mem' rfl h' hv rfl
      refine next ⟨x, .no⟩ mem' h' hk.n (fun b ab q => .inl q) (fun q => absurd rfl q) (fun _ e => by cases e) fun Q E env a w hE he hm hs hd hsl => ?_
      intro Kq hK
      have hvw := view env a w (he env hE) hm hs hd (hsl env hE)
      refine wpOpJ_value ho (wants env a (he env hE) (hsl env hE)) (hv env a w hvw).1 fun w1 hw1 => ?_
      obtain ⟨val, h1, h2⟩ := (hv env a w1 (hvw.rely hw1)).2
      refine ⟨val, w1, h1, hK w1 hw1 _ w1 (fun env2 hE2 => ?_) (Below.refl _ _)⟩
      obtain ⟨val2, h3, h4⟩ := (hv env2 a w1 ((view env2 a w (he env2 hE2) hm hs hd (hsl env2 hE2)).rely hw1)).2
      rw [h1] at h3
      cases h3
      exact h4
    cases b with
    | false =>
      refine next ⟨.tup [], .no⟩ mem hb hk.n (fun b ab q => .inl q) (fun q => absurd rfl q) (fun _ e => by cases e) fun Q E env a w hE he hm hs hd hsl => ?_
      intro Kq hK
      exact wpOpJ_skip ho (wants env a (he env hE) (hsl env hE)) (hK w (C.J.refl w) undef w (fun _ _ => ⟨[], rfl, trivial⟩) (Below.refl _ _))
    | true =>
      dsimp only at hb
      split at hb
      · exact hb.elim
      rename_i hfine
      split at hb
      · rename_i t x y hp
        cases t with
        | true => exact plain x mem rfl (hb.1 rfl) (fun env a w hr => by obtain ⟨vx, vy, hv, hx, _⟩ := pickB_sound hr hp; exact ⟨fun hl => opFine_ns hr hfine (pickB_callV hp) hl hC.lvl, _, hv, hx⟩) rfl
        | false => exact plain y mem rfl (hb.2 rfl) (fun env a w hr => by obtain ⟨vx, vy, hv, _, hy⟩ := pickB_sound hr hp; exact ⟨fun hl => opFine_ns hr hfine (pickB_callV hp) hl hC.lvl, _, hv, hy⟩) rfl
      · split at hb
        · rename_i ps v hp
          obtain ⟨h1, h2⟩ := needs_sat hb
          exact plain v mem rfl h2 (fun env a w hr => ⟨fun hl => pure_ns hC (w0 := w0) ⟨hr.size, hr.tmp, hr.defers, hr.mem⟩ hfine hp hl, pureOp_sound hC.exs hr hp h1⟩) rfl
        · split at hb
          · rename_i t cs hp
            split at hb
            · rename_i hlt
              simp only [Bool.and_eq_true] at hlt
              obtain ⟨hlt, hwd⟩ := hlt
              have hwd : mem0.n + 4 * rs.length + 4 ≤ mem0.n + d := Nat.le_of_ble_eq_true hwd
              refine next ⟨.one (.ptr (mem0.n + 4 * rs.length) 0), .cells t cs⟩ _ hb hk.n (fun b ab q => ?_) (fun _ => hwd) (fun _ e => by cases e) fun Q E env a w hE he hm hs hd hsl => ?_
              · by_cases hbe : b = mem0.n + 4 * rs.length
                · subst hbe
                  exact .inr ⟨rfl, Tr.get_set_eq _ _ _ _ q⟩
                · simp only [Mem.get, Mem.set] at q
                  rw [Tr.get_set_ne _ _ _ _ (Ne.symm hbe)] at q
                  exact .inl q
              · refine ⟨rfl, ?_⟩
                intro Kq hK
                have hvw := view env a w (he env hE) hm hs hd (hsl env hE)
                refine wpOpJ_value ho (wants env a (he env hE) (hsl env hE)) (fun hl => opFine_ns hvw hfine (makeOp_callV hp) hl hC.lvl) fun w1 hw1 => ?_
                obtain ⟨vs, h1, h2⟩ := makeOp_sound (hvw.rely hw1) hp
                exact ⟨_, _, h2, hK w1 hw1 vs (all2_lt (he env hE) h1 hlt)⟩
            · exact hb.elim
          split at hb
          · rename_i r hp
            split at hb
            · rename_i hlt
              simp only [Bool.and_eq_true] at hlt
              obtain ⟨h4, hwd⟩ := hlt
              have hwd : mem0.n + 4 * rs.length + 4 ≤ mem0.n + d := Nat.le_of_ble_eq_true hwd
              refine next ⟨r.val (mem0.n + 4 * rs.length), .res r⟩ _ hb hk.n (fun b ab q => putRC_get q) (fun _ => hwd) (fun q e => by cases e; exact Nat.le_of_ble_eq_true h4) fun Q E env a w hE he hm hs hd hsl => ?_
              refine ⟨rfl, ?_⟩
              intro Kq hK
              have hvw := view env a w (he env hE) hm hs hd (hsl env hE)
              refine wpOpJ_value ho (wants env a (he env hE) (hsl env hE)) (fun hl => opFine_ns hvw hfine (buildRC_callV hp) hl hC.lvl) fun w1 hw1 => ?_
              obtain ⟨v, w', h1, h2, h3⟩ := buildRC_sound (hvw.rely hw1) hp
              exact ⟨v, w', h1, hK w1 hw1 v w' h3 h2⟩
            · exact hb.elim
          split at hb
          · rename_i ps r hp
            split at hb
            · rename_i hlt
              simp only [Bool.and_eq_true] at hlt
              obtain ⟨h4, hwd⟩ := hlt
              have hwd : mem0.n + 4 * rs.length + 4 ≤ mem0.n + d := Nat.le_of_ble_eq_true hwd
              obtain ⟨hps, hb⟩ := needs_sat hb
              refine next ⟨r.val (mem0.n + 4 * rs.length), .res r⟩ _ hb hk.n (fun b ab q => putRC_get q) (fun _ => hwd) (fun q e => by cases e; exact Nat.le_of_ble_eq_true h4) fun Q E env a w hE he hm hs hd hsl => ?_
              refine ⟨rfl, ?_⟩
              intro Kq hK
              have hvw := view env a w (he env hE) hm hs hd (hsl env hE)
              refine wpOpJ_value ho (wants env a (he env hE) (hsl env hE)) (fun hl => opFine_ns hvw hfine (makeRC_callV hp) hl hC.lvl) fun w1 hw1 => ?_
              obtain ⟨v, w', h1, h2, h3⟩ := makeRC_sound (hvw.rely hw1) hp hps
              exact ⟨v, w', h1, hK w1 hw1 v w' h3 h2⟩
            · exact hb.elim
          · split at hb
            · rename_i g vs hco
              have callee : ∀ {env : Nat → Nat} {a : Act} {w : World} {fn : Func}, Rel C B w0 env ⟨tm1.sz, tm1.only (o.looksAt ops), tm1.df⟩ ⟨mem0.n + d, mem0.t⟩ a w → FnOk C.P g fn → fn.body.isSome = true → ∃ vals : List Value, All2 (AV.R env (mem0.n + d)) vs vals ∧
                    (1 ≤ C.J.lvl → NS C.J.lvl C.P (execOp a.eval o)) ∧ ∀ w, (execOp a.eval o).run C.P w = .ok (.enter g vals.toArray) w := fun {env a w fn} hr hfn hbo => calleeO_run hC hr hco hfine hfn hbo
              split at hb
              · rename_i F hF
                split at hb
                · rename_i ps q hp
                  obtain ⟨h1, h2⟩ := needs_sat hb
                  have h2 := bind_sat h2
                  split at h2
                  · rename_i hlt
                    simp only [Bool.and_eq_true] at hlt
                    obtain ⟨h4, hwd⟩ := hlt
                    have hwd : mem0.n + 4 * rs.length + 4 ≤ mem0.n + d := Nat.le_of_ble_eq_true hwd
                    refine next ⟨q.now.val (mem0.n + 4 * rs.length), .res q.now⟩ _ h2 hk.n (fun b ab q => putRC_get q) (fun _ => hwd) (fun q e => by cases e; exact Nat.le_of_ble_eq_true h4) fun Q E env a w hE he hm hs hd hsl => ?_
                    refine ⟨rfl, ?_⟩
                    intro Kq hK
                    have hr := view env a w (he env hE) hm hs hd (hsl env hE)
                    obtain ⟨⟨fn, hfn, hbo⟩, hsum⟩ := hC.fsum _ (sumF_mem hF)
                    obtain ⟨vals, hvals, hns, hrun⟩ := callee hr hfn hbo
                    refine wpOpJ_call (f := g) (args := vals.toArray) ho (wants env a (he env hE) (hsl env hE)) hns fun w1 hw1 => ?_
                    have hr := hr.rely hw1
                    exact ⟨hrun w1, (hsum _ _ q ps hp h1 B w0 w1 env _ hr.mem.bare hvals).mono fun e w' ⟨z, hz, hbl, hR⟩ => ⟨z, hz, hK w1 hw1 z w' hR hbl⟩⟩
                  · exact h2.elim
                · exact hb.elim
              · split at hb
                · rename_i F hF
                  split at hb
                  · rename_i ps v hp
                    split at hb
                    · rename_i hlt
                      obtain ⟨h1, h2⟩ := needs_sat hb
                      refine next ⟨v, .no⟩ mem h2 hk.n (fun b ab q => .inl q) (fun q => absurd rfl q) (fun _ e => by cases e) fun Q E env a w hE he hm hs hd hsl => ?_
                      intro Kq hK
                      have hr := view env a w (he env hE) hm hs hd (hsl env hE)
                      obtain ⟨⟨fn, hfn, hbo⟩, hsum⟩ := hC.ps _ (assoc_mem hF)
                      obtain ⟨vals, hvals, hns, hrun⟩ := callee hr hfn hbo
                      refine wpOpJ_call (f := g) (args := vals.toArray) ho (wants env a (he env hE) (hsl env hE)) hns fun w1 hw1 => ?_
                      have hr := hr.rely hw1
                      exact ⟨hrun w1, (hsum _ _ v ps hp h1 B w0 w1 env _ hr.mem.bare hvals).mono fun e w' ⟨⟨z, hz, hR⟩, hbl⟩ => ⟨z, hz, hK w1 hw1 z w' (fun env2 hE2 => wide (he env2 hE2) (AV.R_lt (he env hE) hR hlt)) hbl⟩⟩
                    · exact hb.elim
                  · exact hb.elim
                · exact hb.elim
            · exact hb.elim
theorem openB_le {ops : Array Oper} {n : Nat} (h : openB ops n = true) : n ≤ ops.size := by
  unfold openB at h
  split at h
  · rename_i he; exact Nat.le_of_eq (Nat.eq_of_beq_eq_true he)
  · simp only [Region.lexTailB, Bool.and_eq_true, decide_eq_true_eq] at h
    exact Nat.le_of_lt h.1.1.1.2
theorem put_get {a : Act} {d : Option Tmp} {v : Value} {t : Tmp} (h : d ≠ some t) : (a.put d v).tmps.getD t undef = a.tmps.getD t undef := by
  cases d with
  | none => rfl
  | some d =>
    have : d ≠ t := fun e => h (by rw [e])
    simp [Act.put, Array.getElem?_setIfInBounds_ne this]
theorem put_get_eq {a : Act} {v : Value} {t : Tmp} (h : t < a.tmps.size) : (a.put (some t) v).tmps.getD t undef = v := by
  simp [Act.put, h]
theorem put_size {a : Act} {d : Option Tmp} {v : Value} : (a.put d v).tmps.size = a.tmps.size := by
  cases d <;> simp [Act.put]
theorem put_defers' {a : Act} {d : Option Tmp} {v : Value} : (a.put d v).defers = a.defers := by
  cases d <;> rfl
structure During (C : Cfg) (B : Nat → Prop) (w0 : World) (ops : Array Oper) (env0 : Nat → Nat) (mem0 : Mem) (tm0 : TM) (N hs0 : Nat) (R : List Rc) (env : Nat → Nat) (listed : Array Bool) (a : Act) (w : World) : Prop where
  ag : ∀ b, b < mem0.n → env b = env0 b
  lsz : listed.size = ops.size
  mr : MR C B w0 env0 mem0 w
  sz : a.tmps.size = tm0.sz
  defers : Dfs env0 mem0.n tm0.df a.defers
  grown : hs0 ≤ w.heap.size
  slots : ∀ env2, Agr mem0.n (fun j => listed.getD j false) env env2 → ∀ t, slot ops env2 N tm0 (fun j => listed.getD j false) t (a.tmps.getD t undef) R
  made : ∀ i r, rat R i = some r → listed.getD i false = true → ∀ b ab, r.made.new (mem0.n + 4 * i) b ab → hs0 ≤ env b ∧ env b < w.heap.size ∧ ∀ env2, Agr mem0.n (fun j => listed.getD j false) env env2 → ab.R env2 N B w (env b)
  apart : ∀ i j ri rj b c x y, rat R i = some ri → rat R j = some rj → listed.getD i false = true → listed.getD j false = true → ri.made.new (mem0.n + 4 * i) b x → rj.made.new (mem0.n + 4 * j) c y → b ≠ c → env b ≠ env c
theorem Made.new_in {n b : Nat} {ab : AB} {m : Made} (h : m.new n b ab) (hw : ∀ q, m = .res q → widRC q.cells ≤ 4) : n ≤ b ∧ b < n + 4 := by
  cases m with
  | no => exact h.elim
  | cells t cs => obtain ⟨rfl, _⟩ := h; omega
  | res q =>
    have := newRC_le h
    have := hw q rfl
    omega
def envAt (env f : Nat → Nat) (n : Nat) : Nat → Nat := fun b => if n ≤ b ∧ b < n + 4 then f b else env b
theorem During.step {ops : Array Oper} {env0 : Nat → Nat} {mem0 : Mem} {tm0 : TM} {N hs0 n : Nat} {R : List Rc} {lo : Nat} {Q : Exit → Act → World → Prop} (hlen : R.length = n) (hpw : ∀ i, lo ≤ i → i < n → ∀ j oi oj, i < j → ops[i]? = some oi → ops[j]? = some oj → (∃ e ∈ oj.after, Region.binds .any e = true ∧ e.on = i) ∨ oi.apart ops oj = true) (hbase : ∀ b, B b → b < hs0)
    (hfacts : Facts C B w0 ops env0 mem0 tm0 N lo R) (hdum : ∀ j r, j < lo → rat R j = some r → r.made = .no)
    {listed : Array Bool} {i : Nat} {a : Act} {w : World} (hlow : ∀ j, j < lo → listed.getD j false = true) (hloi : lo ≤ i) (inv : HeadInv .any ops n listed) (hi : i ∈ Region.ready .any ops listed) (hin : i < n) (h : ∃ env, During C B w0 ops env0 mem0 tm0 N hs0 R env listed a w) :
    wpOpJ C.J ops Q i (fun a' w' => ∃ env, During C B w0 ops env0 mem0 tm0 N hs0 R env (listed.setIfInBounds i true) a' w') a w := by
  obtain ⟨env, h⟩ := h
  obtain ⟨hun, o', ho', hall⟩ := mem_ready.1 hi
  obtain ⟨post, r, pre, hR, hpre, hrat⟩ := rat_split (rs := R) (i := i) (by omega)
  subst hpre
  obtain ⟨o, ho, hdin, hwide, _, hf⟩ := hfacts post r pre hR hloi
  obtain rfl : o' = o := Option.some.inj (ho'.symm.trans ho)
  have hunf : listed.getD pre.length false = false := getD_both hun
  -- later operations that touch what this one touches are not yet listed
  have later : ∀ j oj, pre.length < j → ops[j]? = some oj → o'.apart ops oj = false → listed.getD j false = false := fun j oj hj hoj hap => by
    rcases hpw pre.length hloi hin j o' oj hj ho hoj with ⟨e, he, hb, hon⟩ | h1
    · cases hl : listed.getD j false with
      | false => rfl
      | true =>
        have := inv.closed j oj hoj hl e he hb
        rw [hon, hunf] at this
        cases this
    · rw [hap] at h1; cases h1
  have earlier : ∀ j oj, j < pre.length → ops[j]? = some oj → oj.apart ops o' = false → listed.getD j false = true := fun j oj hj hoj hap => by
    rcases Nat.lt_or_ge j lo with hjl | hjl
    · exact hlow j hjl
    rcases hpw j hjl (by omega) pre.length oj o' hj hoj ho with ⟨e, he, hb, hon⟩ | h1
    · have := hall e he hb
      rw [hon] at this
      exact this
    · rw [hap] at h1; cases h1
  have getop : ∀ j t, dstOf ops j = some t → ∃ oj, ops[j]? = some oj ∧ oj.dst = some t := fun j t hj => by
    unfold dstOf at hj
    exact Option.bind_eq_some_iff.1 hj
  have notap : ∀ {x y : Oper}, (x.apart ops y = true → False) → x.apart ops y = false := fun {x y} hh => by
    cases hq : x.apart ops y with
    | false => rfl
    | true => exact (hh hq).elim
  have look : ∀ env2, Agr mem0.n (fun j => listed.getD j false) env env2 → ∀ t ∈ o'.looksAt ops, slot ops env2 N tm0 (fun _ => true) t (a.tmps.getD t undef) pre := fun env2 hE t ht => by
    have h1 := h.slots env2 hE t
    rw [hR, show post ++ r :: pre = (post ++ [r]) ++ pre by simp] at h1
    have h2 := slot_drop (fun j hj1 hj2 hd => ?_) h1
    · refine slot_same (fun j hj hd => ?_) h2
      obtain ⟨oj, hoj, hdj⟩ := getop j t hd
      exact earlier j oj hj hoj (notap fun hap => (Oper.apart_spec hap).1 t hdj ht)
    · obtain ⟨oj, hoj, hdj⟩ := getop j t hd
      by_cases hje : j = pre.length
      · rw [hje]; exact hunf
      · exact later j oj (by omega) hoj (notap fun hap => (Oper.apart_spec hap).2.2 t hdj ht)
  have self : (listed.setIfInBounds pre.length true).getD pre.length false = true := getD_set_self false hun
  have other : ∀ j, j ≠ pre.length → (listed.setIfInBounds pre.length true).getD j false = listed.getD j false := fun j hj => getD_set_ne false (Ne.symm hj)
  have wid4 : ∀ j rj, rat R j = some rj → ∀ q, rj.made = .res q → widRC q.cells ≤ 4 := fun j rj hj q hq => by
    rcases Nat.lt_or_ge j lo with hjl | hjl
    · rw [hdum j rj hjl hj] at hq; cases hq
    obtain ⟨post', r', pre', hR', hpre', hrat'⟩ := rat_split (rs := R) (i := j) (rat_lt hj)
    obtain rfl : rj = r' := Option.some.inj (hj.symm.trans hrat')
    obtain ⟨_, _, _, _, h4, _⟩ := hfacts post' rj pre' hR' (by omega)
    exact h4 q hq
  have rng : ∀ j rj b x, rat R j = some rj → rj.made.new (mem0.n + 4 * j) b x → mem0.n + 4 * j ≤ b ∧ b < mem0.n + 4 * j + 4 := fun j rj b x hj hn => Made.new_in hn (wid4 j rj hj)
  -- what is new of this operation has new numbers
  have fin : ∀ (f : Nat → Nat) (val : Value) (w' : World), Below w.heap.size w w' →
      (∀ env2, (∀ b, b < mem0.n → env2 b = env b) → (∀ j, listed.getD j false = true → ∀ x, x < 4 → env2 (mem0.n + 4 * j + x) = env (mem0.n + 4 * j + x)) → (∀ x, x < 4 → env2 (mem0.n + 4 * pre.length + x) = f (mem0.n + 4 * pre.length + x)) → r.v.R env2 N val ∧
        ∀ b ab, r.made.new (mem0.n + 4 * pre.length) b ab → ab.R env2 N B w' (f b)) →
      (∀ b ab, r.made.new (mem0.n + 4 * pre.length) b ab → w.heap.size ≤ f b ∧ f b < w'.heap.size) →
      (∀ b c x y, r.made.new (mem0.n + 4 * pre.length) b x → r.made.new (mem0.n + 4 * pre.length) c y → b ≠ c → f b ≠ f c) →
      ∃ env', During C B w0 ops env0 mem0 tm0 N hs0 R env' (listed.setIfInBounds pre.length true) (a.put o'.dst val) w' := fun f val w' hb hval hlo hinj => by
    let env' := envAt env f (mem0.n + 4 * pre.length)
    have e0 : ∀ b, b < mem0.n → env' b = env b := fun b hb => if_neg (by omega)
    have e1 : ∀ x, x < 4 → env' (mem0.n + 4 * pre.length + x) = f (mem0.n + 4 * pre.length + x) := fun x hx => if_pos ⟨by omega, by omega⟩
    have e2 : ∀ j, j ≠ pre.length → ∀ x, x < 4 → env' (mem0.n + 4 * j + x) = env (mem0.n + 4 * j + x) := fun j hj x hx => if_neg (by omega)
    have agr : ∀ env2, Agr mem0.n (fun j => (listed.setIfInBounds pre.length true).getD j false) env' env2 → Agr mem0.n (fun j => listed.getD j false) env env2 ∧ (∀ x, x < 4 → env2 (mem0.n + 4 * pre.length + x) = f (mem0.n + 4 * pre.length + x)) := fun env2 hE => by
      refine ⟨⟨fun b hb => (hE.1 b hb).trans (e0 b hb), fun j hj x hx => ?_⟩, fun x hx => (hE.2 _ self x hx).trans (e1 x hx)⟩
      have hne : j ≠ pre.length := fun e => by
        have hj : listed.getD j false = true := hj
        rw [e, hunf] at hj; cases hj
      exact (hE.2 j ((other j hne).trans hj) x hx).trans (e2 j hne x hx)
    have hnew : ∀ b ab, r.made.new (mem0.n + 4 * pre.length) b ab → env' b = f b := fun b ab hn => by
      have := rng _ _ _ _ hrat hn
      exact if_pos this
    have hold : ∀ j rj b x, j ≠ pre.length → rat R j = some rj → rj.made.new (mem0.n + 4 * j) b x → env' b = env b := fun j rj b x hne hj hn => by
      have := rng j rj b x hj hn
      rw [show b = mem0.n + 4 * j + (b - (mem0.n + 4 * j)) by omega]
      exact e2 j hne _ (by omega)
    refine ⟨env', fun b hb => (e0 b hb).trans (h.ag b hb), by simp [h.lsz], h.mr.later hb, by rw [put_size]; exact h.sz, by rw [put_defers']; exact h.defers, Nat.le_trans h.grown hb.size, fun env2 hE t => ?_, fun j r' hj hl b ab hn => ?_, fun j k rj rk b c x y hj hk hlj hlk hbj hbk hbc => ?_⟩
    · obtain ⟨hE1, hE2⟩ := agr env2 hE
      have hdst : dstOf ops pre.length = o'.dst := by simp [dstOf, ho]
      by_cases ht : o'.dst = some t
      · rw [ht, put_get_eq (by rw [h.sz]; exact hdin t ht), hR]
        refine slot_add (fun j hj1 hj2 hd => ?_) ⟨fun _ _ => (hval env2 hE1.1 hE1.2 hE2).1, fun hn => absurd ⟨self, hdst.trans ht⟩ hn⟩
        obtain ⟨oj, hoj, hdj⟩ := getop j t hd
        simp only [List.length_cons] at hj1
        show (listed.setIfInBounds pre.length true).getD j false = false
        rw [other j (by omega)]
        exact later j oj (by omega) hoj (notap fun hap => (Oper.apart_spec hap).2.1 t ht hdj)
      · rw [put_get ht]
        refine slot_same (fun j _ hd => ?_) (h.slots env2 hE1 t)
        exact (other j (fun e => ht (by rw [← hdst, ← e, hd]))).symm
    · by_cases hje : j = pre.length
      · subst hje
        obtain rfl : r = r' := Option.some.inj (hrat.symm.trans hj)
        rw [hnew b ab hn]
        refine ⟨Nat.le_trans h.grown (hlo b ab hn).1, (hlo b ab hn).2, fun env2 hE => ?_⟩
        obtain ⟨hE1, hE2⟩ := agr env2 hE
        exact (hval env2 hE1.1 hE1.2 hE2).2 b ab hn
      · rw [other j hje] at hl
        rw [hold j r' b ab hje hj hn]
        obtain ⟨q1, q2, q3⟩ := h.made j r' hj hl b ab hn
        exact ⟨q1, Nat.lt_of_lt_of_le q2 hb.size, fun env2 hE => AB.R_below (q3 env2 (agr env2 hE).1) hb⟩
    · by_cases hje : j = pre.length
      · subst hje
        obtain rfl : r = rj := Option.some.inj (hrat.symm.trans hj)
        rw [hnew b x hbj]
        by_cases hke : k = pre.length
        · subst hke
          obtain rfl : r = rk := Option.some.inj (hrat.symm.trans hk)
          rw [hnew c y hbk]
          exact hinj b c x y hbj hbk hbc
        · rw [hold k rk c y hke hk hbk]
          rw [other k hke] at hlk
          have := (h.made k rk hk hlk c y hbk).2.1
          have := (hlo b x hbj).1
          omega
      · rw [hold j rj b x hje hj hbj]
        rw [other j hje] at hlj
        by_cases hke : k = pre.length
        · subst hke
          obtain rfl : r = rk := Option.some.inj (hrat.symm.trans hk)
          rw [hnew c y hbk]
          have := (h.made j rj hj hlj b x hbj).2.1
          have := (hlo c y hbk).1
          omega
        · rw [hold k rk c y hke hk hbk]
          rw [other k hke] at hlk
          exact h.apart j k rj rk b c x y hj hk hlj hlk hbj hbk hbc
  have hf := hf Q (fun env2 => Agr mem0.n (fun j => listed.getD j false) env env2) env a w ⟨fun _ _ => rfl, fun _ _ _ _ => rfl⟩ (fun env2 hE b hb => (hE.1 b hb).trans (h.ag b hb)) h.mr h.sz h.defers look
  have hsz : ∀ {w1 : World}, C.J.rel w w1 → w1.heap.size = w.heap.size := fun h1 => by obtain ⟨d, rfl⟩ := C.J.drawn _ _ h1; rfl
  have blw : ∀ {w1 w' : World}, C.J.rel w w1 → Below w1.heap.size w1 w' → Below w.heap.size w w' := fun h1 hb => by
    obtain ⟨d, rfl⟩ := C.J.drawn _ _ h1
    exact ⟨hb.os, hb.tape, hb.output, hb.size, hb.block⟩
  have hBn : ∀ x, w.heap.size ≤ x → ¬ B x := fun x hx hB => by have := hbase x hB; have := h.grown; omega
  split at hf
  · rename_i hblk
    refine hf _ fun w1 hw1 val w' hv hb => fin env val w' (blw hw1 hb) (fun env2 h1 h2 _ => ⟨hv env2 ⟨h1, h2⟩, fun b ab hn => by rw [hblk] at hn; exact hn.elim⟩) (fun b ab hn => by rw [hblk] at hn; exact hn.elim) (fun b c x y hn => by rw [hblk] at hn; exact hn.elim)
  · rename_i t cs hblk
    obtain ⟨hrv, hf⟩ := hf
    have hN := hwide (by rw [hblk]; intro e; cases e)
    refine hf _ fun w1 hw1 vs hvs => ?_
    have hb1 : Below w1.heap.size w1 (w1.alloc (.cells vs.toArray t)) := (Below.refl _ _).alloc (Nat.le_refl _) _
    have hb := blw hw1 hb1
    have hnew : (w1.alloc (.cells vs.toArray t)).heap[w1.heap.size]? = some (.cells vs.toArray t (0, 0)) := heap_alloc_new w1 _
    rw [hsz hw1] at hnew ⊢
    refine fin (fun _ => w.heap.size) _ _ hb (fun env2 h1 h2 h3 => ⟨?_, fun b ab hn => ?_⟩) (fun b ab hn => ⟨Nat.le_refl _, lt_of_heap hnew⟩) (fun b c x y hn hn' hbc => ?_)
    · rw [hrv]
      have := h3 0 (by omega)
      have this : env2 (mem0.n + 4 * pre.length) = w.heap.size := this
      exact ⟨show mem0.n + 4 * pre.length < N by omega, show Value.pointer (some ⟨w.heap.size, 0, none⟩) = .pointer (some ⟨env2 (mem0.n + 4 * pre.length), 0, none⟩) by rw [this]⟩
    · rw [hblk] at hn
      obtain ⟨rfl, rfl⟩ := hn
      exact ⟨vs, hnew, hvs.imp fun _ _ => SV.R_ext ⟨by omega, fun b hb => (h1 b hb).trans (h.ag b hb)⟩, hBn _ (Nat.le_refl _)⟩
    · rw [hblk] at hn hn'
      exact absurd (hn.1.trans hn'.1.symm) hbc
  · rename_i q hblk
    obtain ⟨hrv, hf⟩ := hf
    have hq4 := wid4 _ _ hrat q hblk
    have hN := hwide (by rw [hblk]; intro e; cases e)
    refine hf _ fun w1 hw1 val w' ⟨flat, bs, g1, g2, g3⟩ hb => ?_
    have hb := blw hw1 hb
    rw [hsz hw1] at g2
    obtain ⟨f, f1, f2, f3⟩ := rc_env (n := mem0.n + 4 * pre.length) g2 g3
    refine fin f val w' hb (fun env2 h1 h2 h3 => ⟨?_, fun b ab hn => ?_⟩) (fun b ab hn => ?_) (fun b c x y hn hn' hbc => ?_)
    · rw [hrv]
      refine RS.asm_R g1 (f1 env2 N (fun b hb1 hb2 => ?_) (by omega))
      have := h3 (b - (mem0.n + 4 * pre.length)) (by omega)
      rw [show mem0.n + 4 * pre.length + (b - (mem0.n + 4 * pre.length)) = b by omega] at this
      exact this
    · rw [hblk] at hn
      have hle := newRC_le hn
      obtain ⟨_, p2, ty, k, L, rest, rfl, p3, p4, p5⟩ := f2 b ab hn
      refine ⟨rest, p3, ?_, by omega, p5, hBn _ p2⟩
      have := h3 (b + 1 - (mem0.n + 4 * pre.length)) (by omega)
      rw [show mem0.n + 4 * pre.length + (b + 1 - (mem0.n + 4 * pre.length)) = b + 1 by omega] at this
      rw [this]; exact p4
    · rw [hblk] at hn
      obtain ⟨_, p2, ty, k, L, rest, _, p3, _⟩ := f2 b ab hn
      exact ⟨p2, lt_of_heap p3⟩
    · rw [hblk] at hn hn'
      exact f3 b c x y hn hn' hbc
theorem open_any (hC : COk C) {ops : Array Oper} {n d : Nat} (hB : openB ops n = true) {Q : Exit → Act → World → Prop} {a : Act} {w : World} {env : Nat → Nat} {tm : TM} {mem : Mem} (hr : Rel C B w0 env tm mem a w) {k : TM → Mem → Out}
    (h : (openRun C ops mem.n ⟨mem.n + d, mem.t⟩ (ops.toList.take n) 0 tm ⟨mem.n + d, mem.t⟩ k).sat K)
    (hk : ∀ tm' mem' env' a' w', (k tm' mem').sat K → Rel C B w0 env' tm' mem' a' w' → Ext env mem.n env' mem'.n → wpListJ C.J ops Q (ops.toList.drop n) a' w') : wpAnyJ C.J .any ops Q ops.size (Array.replicate ops.size false) a { w with drawn := w.drawn + 1 } := by
  have hle := openB_le hB
  have hmr : MR C B w0 env mem { w with drawn := w.drawn + 1 } := hr.mem.drew
  have hl : (ops.toList.take n).length = n := by simp; omega
  have k0 : Known ops env mem tm (mem.n + d) [] tm ⟨mem.n + d, mem.t⟩ := ⟨rfl, rfl, fun env' t v he hs => hs, rfl, fun b ab hb => .inl hb⟩
  obtain ⟨R, tmE, memE, q1, q2, q3, q4⟩ := openRun_facts (B := B) (w0 := w0) (n := n) hC (ops.toList.take n) 0 tm _ [] rfl (by rw [hl]; omega)
    (fun j hj => by rw [hl] at hj; simp [hj]) h k0
  rw [List.append_nil] at q2 q3 q4
  refine any_open (n := n) (Iv := fun listed a w' => ∃ env', During C B w0 ops env mem tm (mem.n + d) w.heap.size R env' listed a w') hB ?_ (fun _ hpw listed i a' w' inv hi hin hJ =>
    During.step (lo := 0) q2 (fun i _ hi => hpw i hi) hr.mem.base q4 (fun j _ h => absurd h (Nat.not_lt_zero _)) (fun j h => absurd h (Nat.not_lt_zero _)) (Nat.zero_le _) inv hi hin hJ) ?_
  · refine ⟨env, fun _ _ => rfl, by simp, hmr, hr.size, hr.defers, Nat.le_refl _, fun env2 hE t => ?_, fun i r _ hl => ?_, fun i j ri rj b c x y _ _ hl => ?_⟩
    · have h1 := AV.R_ext (m' := mem.n + d) ⟨Nat.le_add_right _ _, hE.1⟩ (hr.tmp t)
      have : slot ops env2 (mem.n + d) tm (fun j => (Array.replicate ops.size false).getD j false) t (a.tmps.getD t undef) (R ++ []) :=
        slot_add (fun j _ _ _ => getD_replicate_false _ _) h1
      rwa [List.append_nil] at this
    · rw [getD_replicate_false] at hl; cases hl
    · rw [getD_replicate_false] at hl; cases hl
  · intro listed a' w' hall ⟨env', hd⟩
    have hmr0 := hr.mem
    have allD : ∀ i r, rat R i = some r → listed.getD i false = true := fun i r hi => by
      have hlt := rat_lt hi
      have h1 := hall i (by omega)
      have hin : i < listed.size := by rw [hd.lsz]; omega
      simpa [hin] using h1
    have hx : Ext env mem.n env' (mem.n + d) := ⟨Nat.le_add_right _ _, hd.ag⟩
    have self : Agr mem.n (fun j => listed.getD j false) env' env' := ⟨fun _ _ => rfl, fun _ _ _ _ => rfl⟩
    refine hk tmE memE env' a' w' q1 ⟨hd.sz.trans q3.sz.symm, fun t => ?_, by rw [q3.df, q3.n]; exact hd.defers.ext hx, ?_⟩ (by rw [q3.n]; exact hx)
    · rw [q3.n]
      refine q3.slots env' t _ hd.ag (slot_same (fun j hj _ => ?_) (hd.slots env' self t))
      obtain ⟨_, r, _, _, _, hrat⟩ := rat_split hj
      exact allD j r hrat
    · have hN : memE.n = mem.n + d := q3.n
      have := MR.join (t := memE.t) hd.mr hx (fun b => ∃ j r ab, rat R j = some r ∧ r.made.new (mem.n + 4 * j) b ab) (fun b ab hg => ?_) (fun b ⟨j, r, x, hj, hn⟩ i ab hi hw => ?_) (fun b c ⟨j, rj, x, hj, hnj⟩ ⟨k, rk, y, hk, hnk⟩ hbc => hd.apart j k rj rk b c x y hj hk (allD j rj hj) (allD k rk hk) hnj hnk hbc)
      · rw [← hN] at this; exact this
      · rcases q3.blks b ab hg with h1 | ⟨j, r, hj, hn⟩
        · exact .inl h1
        · refine .inr ⟨⟨j, r, ab, hj, hn⟩, ?_, (hd.made j r hj (allD j r hj) b ab hn).2.2 env' self⟩
          obtain ⟨post, r', pre, hR, hpre, hrat⟩ := rat_split (rs := R) (i := j) (rat_lt hj)
          obtain rfl : r = r' := Option.some.inj (hj.symm.trans hrat)
          obtain ⟨_, _, _, hwd, h4, _⟩ := q4 post r pre hR (Nat.zero_le _)
          subst hpre
          have := hwd (by intro e; rw [e] at hn; exact hn)
          have := (Made.new_in hn h4).2
          omega
      · have := (hd.made j r hj (allD j r hj) b x hn).1
        have := (AB.heap_lt (hmr0.blk i ab hi) hw).1
        omega
theorem open_sound (hC : COk C) {ops : Array Oper} {n id d : Nat} (hB : openB ops n = true) {Q : Exit → Act → World → Prop} {a : Act} {w : World} {env : Nat → Nat} {tm : TM} {mem : Mem} (hr : Rel C B w0 env tm mem a w) {k : TM → Mem → Out}
    (h : (openRun C ops mem.n ⟨mem.n + d, mem.t⟩ (ops.toList.take n) 0 tm ⟨mem.n + d, mem.t⟩ k).sat K)
    (hk : ∀ tm' mem' env' a' w', (k tm' mem').sat K → Rel C B w0 env' tm' mem' a' w' → Ext env mem.n env' mem'.n → wpListJ C.J ops Q (ops.toList.drop n) a' w') : wpJ C.J (.region id ops true) Q a w :=
  wpJ_region_any hC.mixed fun _w1 h1 => open_any hC hB (hr.rely h1) h hk
theorem open_headAt (hC : COk C) {ops ops' : Array Oper} {n id d : Nat} {fl : Bool} (hh : headAt ops = some (ops', n, fl)) {Q : Exit → Act → World → Prop} (hQ : fl = true → ∀ c a w, ¬ Q (.panic c) a w) (hQs : ∀ a w w1, C.J.rel w w1 → Q .normal a w → Q .normal a w1)
    {a : Act} {w : World} {env : Nat → Nat} {tm : TM} {mem : Mem} (hr : Rel C B w0 env tm mem a w) {k : TM → Mem → Out}
    (h : (openRun C ops' mem.n ⟨mem.n + d, mem.t⟩ (ops'.toList.take n) 0 tm ⟨mem.n + d, mem.t⟩ k).sat K)
    (hk : ∀ tm' mem' env' a' w', (k tm' mem').sat K → Rel C B w0 env' tm' mem' a' w' → Ext env mem.n env' mem'.n → wpListJ C.J ops' Q (ops'.toList.drop n) a' w') : wpJ C.J (.region id ops true) Q a w := by
  obtain ⟨hB, _, hup⟩ := headAt_any (J := C.J) hh
  exact wpJ_region_any hC.mixed fun w1 h1 => hup hQ hQs (open_any hC hB (hr.rely h1) h hk)
def dummies (ops : Array Oper) (tm : TM) : Nat → List Rc
  | 0 => []
  | k + 1 => ⟨match dstOf ops k with | some t => tm.get t | none => .any, .no⟩ :: dummies ops tm k
theorem dummies_len {ops : Array Oper} {tm : TM} : ∀ {k : Nat}, (dummies ops tm k).length = k
  | 0 => rfl
  | k + 1 => by simp [dummies, dummies_len (k := k)]
theorem dummies_made {ops : Array Oper} {tm : TM} : ∀ {k j : Nat} {r : Rc}, rat (dummies ops tm k) j = some r → r.made = .no
  | 0, j, r, h => by cases h
  | k + 1, j, r, h => by
    simp only [dummies, rat] at h
    split at h
    · cases h; rfl
    · exact dummies_made h
theorem slot_dummies {ops : Array Oper} {tm : TM} {env : Nat → Nat} {N : Nat} {D : Nat → Bool} {t : Tmp} {v : Value} : ∀ {k : Nat}, (tm.get t).R env N v → slot ops env N tm D t v (dummies ops tm k)
  | 0, h => h
  | k + 1, h => ⟨fun _ h2 => by rw [dummies_len] at h2; simp only [h2]; exact h, fun _ => slot_dummies h⟩
theorem dummies_slot {ops : Array Oper} {tm : TM} {env : Nat → Nat} {N : Nat} {t : Tmp} {v : Value} : ∀ {k : Nat}, slot ops env N tm (fun _ => true) t v (dummies ops tm k) → (tm.get t).R env N v
  | 0, h => h
  | k + 1, h => by
    by_cases hd : dstOf ops k = some t
    · have := h.1 rfl (by rw [dummies_len]; exact hd)
      simp only [hd] at this
      exact this
    · exact dummies_slot (h.2 fun q => hd (by rw [dummies_len] at q; exact q.2))
theorem rat_append {R : List Rc} {j : Nat} : ∀ {new : List Rc}, j < R.length → rat (new ++ R) j = rat R j
  | [], _ => rfl
  | r :: new, h => by
    simp only [List.cons_append, rat]
    rw [if_neg (by simp only [List.length_append]; omega)]
    exact rat_append h
theorem open_part (hC : COk C) {ops : Array Oper} {lo n d : Nat} (hback : backB ops = true) (hlon : lo < n) (hle : n ≤ ops.size) (hpiv : n = ops.size ∨ pivotB ops lo n = true) (hseg : segB ops (n - lo) lo (firstsA ops lo) = true)
    {Q : Exit → Act → World → Prop} {a : Act} {w : World} {env : Nat → Nat} {tm : TM} {mem : Mem} (hr : Rel C B w0 env tm mem a w) {k : TM → Mem → Out}
    (h : (openRun C ops mem.n ⟨mem.n + d, mem.t⟩ ((ops.toList.drop lo).take (n - lo)) lo tm ⟨mem.n + d, mem.t⟩ k).sat K)
    (hk : ∀ tm' mem' env' a' w', (k tm' mem').sat K → Rel C B w0 env' tm' mem' a' w' → Ext env mem.n env' mem'.n → wpAnyJ C.J .any ops Q (ops.size - n) (firstsA ops n) a' w') : wpAnyJ C.J .any ops Q (ops.size - lo) (firstsA ops lo) a w := by
  have hl : ((ops.toList.drop lo).take (n - lo)).length = n - lo := by simp; omega
  have k0 : Known ops env mem tm (mem.n + d) (dummies ops tm lo) tm ⟨mem.n + d, mem.t⟩ := ⟨rfl, rfl, fun env' t v he hs => dummies_slot hs, rfl, fun b ab hb => .inl hb⟩
  obtain ⟨R, tmE, memE, q1, q2, q3, q4⟩ := openRun_facts (B := B) (w0 := w0) (n := n) hC ((ops.toList.drop lo).take (n - lo)) lo tm _ (dummies ops tm lo) dummies_len (by rw [hl]; omega)
    (fun j hj => by
      rw [hl] at hj
      rw [List.getElem?_take, if_pos hj, List.getElem?_drop]
      simp) h k0
  rw [dummies_len] at q4
  have hdum : ∀ j r, j < lo → rat (R ++ dummies ops tm lo) j = some r → r.made = .no := fun j r hj hr => by
    rw [rat_append (by rw [dummies_len]; exact hj)] at hr
    exact dummies_made hr
  refine any_seg (n := n) (Iv := fun listed a w' => ∃ env', During C B w0 ops env mem tm (mem.n + d) w.heap.size (R ++ dummies ops tm lo) env' listed a w') hback hlon hle hpiv hseg ?_ (fun hpw listed i a' w' inv hlow hi hloi hin hJ =>
    During.step (lo := lo) q2 hpw hr.mem.base q4 hdum hlow hloi inv hi hin hJ) ?_
  · refine ⟨env, fun _ _ => rfl, firstsA_ok.1, hr.mem, hr.size, hr.defers, Nat.le_refl _, fun env2 hE t => ?_, fun i r hi hl b ab hn => ?_, fun i j ri rj b c x y hi hj hli hlj hni => ?_⟩
    · have h1 := AV.R_ext (m' := mem.n + d) ⟨Nat.le_add_right _ _, hE.1⟩ (hr.tmp t)
      refine slot_add (fun j hj1 hj2 _ => ?_) (slot_dummies h1)
      rw [dummies_len] at hj1
      rw [q2] at hj2
      show (firstsA ops lo).getD j false = false
      rw [(firstsA_ok (ops := ops) (n := lo)).2 j false (by omega)]
      exact decide_eq_false (by omega)
    · have hilt : i < lo := by
        have hi2 := rat_lt hi
        rw [q2] at hi2
        rw [(firstsA_ok (ops := ops) (n := lo)).2 i false (by omega)] at hl
        exact of_decide_eq_true hl
      rw [hdum i r hilt hi] at hn; exact hn.elim
    · have hilt : i < lo := by
        have hi2 := rat_lt hi
        rw [q2] at hi2
        rw [(firstsA_ok (ops := ops) (n := lo)).2 i false (by omega)] at hli
        exact of_decide_eq_true hli
      rw [hdum i ri hilt hi] at hni; exact hni.elim
  · intro a' w' ⟨env', hd⟩
    have hmr0 := hr.mem
    have allD : ∀ i r, rat (R ++ dummies ops tm lo) i = some r → (firstsA ops n).getD i false = true := fun i r hi => by
      have hlt := rat_lt hi
      rw [q2] at hlt
      rw [(firstsA_ok (ops := ops) (n := n)).2 i false (by omega)]
      exact decide_eq_true hlt
    have hx : Ext env mem.n env' (mem.n + d) := ⟨Nat.le_add_right _ _, hd.ag⟩
    have self : Agr mem.n (fun j => (firstsA ops n).getD j false) env' env' := ⟨fun _ _ => rfl, fun _ _ _ _ => rfl⟩
    refine hk tmE memE env' a' w' q1 ⟨hd.sz.trans q3.sz.symm, fun t => ?_, by rw [q3.df, q3.n]; exact hd.defers.ext hx, ?_⟩ (by rw [q3.n]; exact hx)
    · rw [q3.n]
      refine q3.slots env' t _ hd.ag (slot_same (fun j hj _ => ?_) (hd.slots env' self t))
      obtain ⟨_, r, _, _, _, hrat⟩ := rat_split hj
      exact allD j r hrat
    · have hN : memE.n = mem.n + d := q3.n
      have := MR.join (t := memE.t) hd.mr hx (fun b => ∃ j r ab, rat (R ++ dummies ops tm lo) j = some r ∧ r.made.new (mem.n + 4 * j) b ab) (fun b ab hg => ?_) (fun b ⟨j, r, x, hj, hn⟩ i ab hi hw => ?_) (fun b c ⟨j, rj, x, hj, hnj⟩ ⟨k, rk, y, hk, hnk⟩ hbc => hd.apart j k rj rk b c x y hj hk (allD j rj hj) (allD k rk hk) hnj hnk hbc)
      · rw [← hN] at this; exact this
      · rcases q3.blks b ab hg with h1 | ⟨j, r, hj, hn⟩
        · exact .inl h1
        · refine .inr ⟨⟨j, r, ab, hj, hn⟩, ?_, (hd.made j r hj (allD j r hj) b ab hn).2.2 env' self⟩
          obtain ⟨post, r', pre, hR, hpre, hrat⟩ := rat_split (rs := R ++ dummies ops tm lo) (i := j) (rat_lt hj)
          obtain rfl : r = r' := Option.some.inj (hj.symm.trans hrat)
          have hjl : lo ≤ j := by
            rcases Nat.lt_or_ge j lo with h | h
            · rw [hdum j r h hj] at hn; exact hn.elim
            · exact h
          subst hpre
          obtain ⟨_, _, _, hwd, h4, _⟩ := q4 post r pre hR hjl
          have := hwd (by intro e; rw [e] at hn; exact hn)
          have := (Made.new_in hn h4).2
          omega
      · have := (hd.made j r hj (allD j r hj) b x hn).1
        have := (AB.heap_lt (hmr0.blk i ab hi) hw).1
        omega
end
end Go.Ax

namespace Go.Ax
open Go Go.RowKit
section
variable {C : Cfg} {B : Nat → Prop} {w0 w : World} {K : AV → Mem → Prop}
theorem putA_get_ne {tm : TM} {d : Option Tmp} {v : AV} {t : Tmp} (h : d ≠ some t) : (putA tm d v).get t = tm.get t := by
  cases d with
  | none => rfl
  | some d =>
    have hd : d ≠ t := fun e => h (by rw [e])
    simp only [putA, TM.set]
    split
    · simp only [TM.get]; rw [Tr.get_set_ne _ _ _ _ hd]
    · rfl
theorem putA_sz {tm : TM} {d : Option Tmp} {v : AV} : (putA tm d v).sz = tm.sz := by
  cases d with
  | none => rfl
  | some d => exact set_sz _ _ _
theorem putA_df {tm : TM} {d : Option Tmp} {v : AV} : (putA tm d v).df = tm.df := by
  cases d with
  | none => rfl
  | some d => exact set_df _ _ _
theorem evalOps_frame {ops : Array Oper} {n0 : Nat} {m0 : Mem} : ∀ {l : List Oper} {tm tx : TM} {ps : List Cnd}, evalOps C ops n0 m0 l tm = some (ps, tx) → tx.sz = tm.sz ∧ tx.df = tm.df ∧ ∀ t, (∀ o ∈ l, o.dst ≠ some t) → tx.get t = tm.get t
  | [], tm, tx, ps, h => by cases h; exact ⟨rfl, rfl, fun _ _ => rfl⟩
  | o :: rest, tm, tx, ps, h => by
    simp only [evalOps] at h
    split at h
    · split at h
      · cases h
      · cases h
      · split at h
        · split at h
          · split at h
            · rename_i h'
              cases h
              obtain ⟨q1, q3, q2⟩ := evalOps_frame h'
              refine ⟨q1.trans putA_sz, q3.trans putA_df, fun t ht => ?_⟩
              rw [q2 t (fun o ho => ht o (List.mem_cons_of_mem _ ho)), putA_get_ne (ht o (List.mem_cons_self ..))]
            · cases h
          · cases h
        · cases h
    · cases h
theorem needs_intro {lit : Bool} {ps : List Cnd} {o : Out} (h : allP ps) (ho : o.sat K) : (needs lit ps o).sat K := by
  induction ps with
  | nil => exact ho
  | cons p ps ih =>
    unfold needs
    split
    · exact ⟨h.1, ih h.2⟩
    · split
      · exact ih h.2
      · exact ⟨h.1, ih h.2⟩
theorem allP_app {ps qs : List Cnd} : allP (ps ++ qs) → allP ps ∧ allP qs := by
  induction ps with
  | nil => exact fun h => ⟨trivial, h⟩
  | cons p ps ih => exact fun h => ⟨⟨h.1, (ih h.2).1⟩, (ih h.2).2⟩
theorem evalOps_run {ops : Array Oper} {n0 : Nat} {m0 : Mem} {k : TM → Mem → Out} : ∀ {l : List Oper} {i : Nat} {tm tx : TM} {mem : Mem} {ps : List Cnd}, evalOps C ops n0 m0 l tm = some (ps, tx) → allP ps → (k tx mem).sat K →
    (openRun C ops n0 m0 l i tm mem k).sat K
  | [], i, tm, tx, mem, ps, h, _, hk => by cases h; exact hk
  | o :: rest, i, tm, tx, mem, ps, h, hp, hk => by
    simp only [evalOps] at h
    split at h
    · rename_i hg hin
      split at h
      · cases h
      · cases h
      · rename_i hfine hpick
        split at h
        · rename_i qs v hpure
          split at h
          · rename_i hlt
            split at h
            · rename_i qs' tm' h'
              cases h
              obtain ⟨h1, h2⟩ := allP_app hp
              have ih := evalOps_run (i := i + 1) h' h2 hk
              simp only [openRun, hin, guarded, hg, hfine, hpick, hpure]
              exact needs_intro h1 ih
            · cases h
          · cases h
        · cases h
    · cases h
theorem anyAll_get : ∀ {l : List Oper} {tm : TM} (t : Tmp), (anyAll tm l).get t = .any ∨ ((∀ o ∈ l, o.dst ≠ some t) ∧ (anyAll tm l).get t = tm.get t) ∨ (anyAll tm l).get t = tm.get t ∧ ¬ t < tm.sz
  | [], tm, t => .inr (.inl ⟨(fun _ h => by cases h), rfl⟩)
  | o :: rest, tm, t => by
    rcases anyAll_get (l := rest) (tm := putA tm o.dst .any) t with h | ⟨h1, h2⟩ | ⟨h1, h2⟩
    · exact .inl h
    · by_cases hd : o.dst = some t
      · have : (putA tm o.dst .any).get t = .any ∨ ((putA tm o.dst .any).get t = tm.get t ∧ ¬ t < tm.sz) := by
          rw [hd]
          simp only [putA, TM.set]
          split
          · left
            simp only [TM.get]
            cases hq : (tm.t.set t .any).get t with
            | none => rfl
            | some y => exact Tr.get_set_eq _ _ _ _ hq
          · rename_i hb
            right
            refine ⟨rfl, fun hlt => ?_⟩
            have : Nat.blt t tm.sz = true := Nat.ble_eq_true_of_le hlt
            rw [this] at hb
            cases hb
        rcases this with h3 | ⟨h3, h4⟩
        · exact .inl (h2.trans h3)
        · exact .inr (.inr ⟨h2.trans h3, h4⟩)
      · refine .inr (.inl ⟨fun o' ho' => ?_, h2.trans (putA_get_ne hd)⟩)
        rcases List.mem_cons.1 ho' with rfl | ho'
        · exact hd
        · exact h1 o' ho'
    · rw [putA_sz] at h2
      by_cases hd : o.dst = some t
      · refine .inr (.inr ⟨h1.trans ?_, h2⟩)
        rw [hd]
        simp only [putA, TM.set]
        split
        · rename_i hb; exact absurd (Nat.le_of_ble_eq_true hb) h2
        · rfl
      · exact .inr (.inr ⟨h1.trans (putA_get_ne hd), h2⟩)
theorem anyAll_df : ∀ {l : List Oper} {tm : TM}, (anyAll tm l).df = tm.df
  | [], _ => rfl
  | _ :: rest, _ => (anyAll_df (l := rest)).trans putA_df
theorem anyAll_sz : ∀ {l : List Oper} {tm : TM}, (anyAll tm l).sz = tm.sz
  | [], _ => rfl
  | _ :: rest, _ => (anyAll_sz (l := rest)).trans putA_sz
theorem splice_set : ∀ {l : List SV} {o : Nat} {s : SV}, o < l.length → splice l o [s] = l.set o s
  | x :: l, 0, s, _ => by simp [splice]
  | x :: l, o + 1, s, h => by
    have := splice_set (l := l) (o := o) (s := s) (by simpa using h)
    simp only [splice, List.take_succ_cons, List.length_cons, List.length_nil, List.cons_append, List.set_cons_succ] at this ⊢
    rw [← this]
    simp [List.drop_succ_cons]
theorem all2_set {R : SV → Value → Prop} : ∀ {l : List SV} {vs : List Value} {o : Nat} {s s' : SV}, All2 R l vs → l[o]? = some s → (∀ v, R s v → R s' v) → All2 R (l.set o s') vs
  | x :: l, v :: vs, 0, s, s', h, hs, hi => by
    simp only [List.getElem?_cons_zero, Option.some.injEq] at hs
    subst hs
    exact ⟨hi _ h.1, h.2⟩
  | x :: l, v :: vs, o + 1, s, s', h, hs, hi => ⟨h.1, all2_set h.2 (by simpa using hs) hi⟩
theorem int_R {env : Nat → Nat} {m : Nat} {s : SV} {k : IntKind} {x : Int} {v : Value} (h : (AV.one s).int = .l k x ∨ (AV.one s).int = .s k x) : s.R env m v ↔ (SV.si k x).R env m v := by
  cases s <;> simp only [AV.int] at h
  · simp at h
  · rename_i k' n
    rcases h with h | h
    · simp only [AI.l.injEq] at h; obtain ⟨rfl, rfl⟩ := h; exact Iff.rfl
    · cases h
  · rename_i k' n
    rcases h with h | h
    · cases h
    · simp only [AI.s.injEq] at h; obtain ⟨rfl, rfl⟩ := h; exact Iff.rfl
  all_goals simp at h
theorem kEq_eq {a b : IntKind} (h : kEq a b = true) : a = b := by
  cases a <;> cases b <;> first | rfl | cases h
theorem allP_imp {t : Bool} : ∀ {ps : List Cnd}, allP (ps.map fun c => Cnd.of (t = true → c.p)) → t = true → allP ps
  | [], _, _ => trivial
  | _ :: _, h, ht => ⟨h.1 ht, allP_imp h.2 ht⟩
theorem anyAll_R {env : Nat → Nat} {m : Nat} {l : List Oper} {tm tx : TM} {a : Act} (hsz : a.tmps.size = tm.sz) (hfr : ∀ t, (∀ o ∈ l, o.dst ≠ some t) → tx.get t = tm.get t)
    (h : ∀ t, (tx.get t).R env m (a.tmps.getD t undef)) (hb : ∀ t, ¬ t < tm.sz → (tm.get t).R env m undef) (t : Tmp) : ((anyAll tm l).get t).R env m (a.tmps.getD t undef) := by
  rcases anyAll_get (l := l) (tm := tm) t with h1 | ⟨h1, h2⟩ | ⟨h1, h2⟩
  · rw [h1]; exact AV.R_any
  · rw [h2, ← hfr t h1]; exact h t
  · rw [h1]
    have : a.tmps.getD t undef = undef := by
      have : ¬ t < a.tmps.size := by rw [hsz]; exact h2
      simp [this]
    rw [this]
    exact hb t h2
theorem MR.congr {env : Nat → Nat} {mem mem' : Mem} (h : MR C B w0 env mem w) (hn : mem'.n = mem.n)
    (hg : ∀ i ab', mem'.get i = some ab' → ∃ ab, mem.get i = some ab ∧ (ab.R env mem.n B w (env i) → ab'.R env mem.n B w (env i)) ∧ (ab'.wr = true → ab.wr = true)) : MR C B w0 env mem' w := by
  refine ⟨h.below, h.base, fun i ab hi => ?_, fun i ab hi => ?_, fun i j x y hi hj hij hx hy => ?_, fun p hp => ?_, h.gd⟩
  · obtain ⟨ab0, h1, _, _⟩ := hg i ab hi
    rw [hn]; exact h.lt i ab0 h1
  · obtain ⟨ab0, h1, h2, _⟩ := hg i ab hi
    rw [hn]; exact h2 (h.blk i ab0 h1)
  · obtain ⟨x0, h1, _, h3⟩ := hg i x hi
    obtain ⟨y0, h4, _, h6⟩ := hg j y hj
    exact h.sep i j x0 y0 h1 h4 hij (h3 hx) (h6 hy)
  · rw [hn]; exact h.gl p hp
theorem set_congr {env : Nat → Nat} {mem : Mem} {b : Nat} {tt : TypeId} {l l' : List SV} (h : MR C B w0 env mem w) (hb : mem.get b = some (.cells tt l)) (hi : ∀ vs : List Value, All2 (SV.R env mem.n) l vs → All2 (SV.R env mem.n) l' vs) :
    MR C B w0 env (mem.set b (.cells tt l')) w := by
  refine h.congr rfl fun i ab' hi' => ?_
  by_cases hib : i = b
  · subst hib
    have := Tr.get_set_eq _ _ _ _ hi'
    subst this
    exact ⟨_, hb, fun ⟨vs, h1, h2, h3⟩ => ⟨vs, h1, hi vs h2, h3⟩, fun _ => rfl⟩
  · simp only [Mem.get, Mem.set] at hi'
    rw [Tr.get_set_ne _ _ _ _ (Ne.symm hib)] at hi'
    exact ⟨ab', hi', fun h => h, fun h => h⟩
theorem Tr.get_set_self {α : Type} (t : Tr α) : ∀ (n : Nat) (a x : α), t.get n = some x → (t.set n a).get n = some a := by
  induction t with
  | leaf => intro n a x h; cases h
  | node v l r ihl ihr =>
    intro n a x h
    unfold Tr.set
    cases hn : Nat.beq n 0 with
    | true => simp only [Tr.get, hn]
    | false =>
      cases hb : Nat.beq (n % 2) 1 with
      | true => simp only [hn, hb, Tr.get] at h ⊢; exact ihl _ a x h
      | false => simp only [hn, hb, Tr.get] at h ⊢; exact ihr _ a x h
theorem merge_sound (hC : COk C) {t : Bool} {ops : Array Oper} {id : Nat} {tm tm' : TM} {mem mem' : Mem} {ps : List Cnd} {env : Nat → Nat} {a : Act} {Q : Exit → Act → World → Prop} (h : mergeA C t ops tm mem = some (ps, tm', mem')) (hp : t = true → allP ps)
    (hr : Rel C B w0 env tm mem a w) (hk : ∀ env' a' w', Rel C B w0 env' tm' mem' a' w' → Ext env mem.n env' mem'.n → Q .normal a' w') :
    (t = true → wpJ C.J (.region id ops true) Q a w) ∧ (t = false → Q .normal a w) := by
  unfold mergeA at h
  split at h
  · rename_i n hh
    have hB := headOf_spec hh
    split at h
    · rename_i ps1 tx o he hd
      split at h
      · rename_i ty x v hog hod hop
        have main : ∀ (b off : Nat) (qs : List Cnd) (r : AV) (MX : Mem) (k : IntKind) (xv : Int), ev C tx x = .one (.ptr b off) → storeA C.P mem ty (ev C tx x) (ev C tx v) = some (qs, r, MX) →
            ((ev C tx v).int = .l k xv ∨ (ev C tx v).int = .s k xv) →
            (match mem.get b with
              | some (.cells tt l) => match l[off]? with
                | some old => match (AV.one old).int with
                  | .l k' y | .s k' y => match kEq k k' with
                    | true => some (ps1 ++ qs, anyAll tm (ops.toList.take n), Mem.set mem b (.cells tt (l.set off (.si k (iteI t xv y)))))
                    | false => none
                  | .no => none
                | none => none
              | _ => none) = some (ps, tm', mem') → (t = true → wpJ C.J (.region id ops true) Q a w) ∧ (t = false → Q .normal a w) := by
          intro b off qs r MX k xv hx hst hv h
          split at h
          · rename_i tt l hb
            split at h
            · rename_i old hold
              have fin : ∀ (k' : IntKind) (y : Int), ((AV.one old).int = .l k' y ∨ (AV.one old).int = .s k' y) →
                  (match kEq k k' with
                    | true => some (ps1 ++ qs, anyAll tm (ops.toList.take n), Mem.set mem b (.cells tt (l.set off (.si k (iteI t xv y)))))
                    | false => none) = some (ps, tm', mem') → (t = true → wpJ C.J (.region id ops true) Q a w) ∧ (t = false → Q .normal a w) := by
                intro k' y hy h
                split at h
                · rename_i hkk
                  have := kEq_eq hkk
                  subst this
                  cases h
                  obtain ⟨hsx, hdx, hfr⟩ := evalOps_frame he
                  have hoob : ∀ (env : Nat → Nat) (m : Nat) u, ¬ u < tm.sz → (∀ t, (tm.get t).R env m (a.tmps.getD t undef)) → (tm.get u).R env m undef := fun env m u hu hall => by
                    have h1 := hall u
                    have : ¬ u < a.tmps.size := by rw [hr.size]; exact hu
                    simpa [this] using h1
                  have hlt : off < l.length := (List.getElem?_eq_some_iff.1 hold).1
                  have hbN : (mem : Mem).get b = some (.cells tt l) := hb
                  refine ⟨fun ht => ?_, fun ht => ?_⟩
                  · obtain ⟨hp1, hp2⟩ := allP_app (hp ht)
                    -- the store, carried out
                    have hMX : ∃ s, (ev C tx v).cellsA = some [s] ∧ MX = Mem.set mem b (.cells tt (l.set off s)) ∧ r = .tup [] ∧ qs = [] := by
                      unfold storeA at hst
                      rw [hx] at hst
                      split at hst
                      · rename_i bb oo cs sz hxx hcs hsz
                        cases hxx
                        split at hst
                        · cases hst
                        · rename_i hc
                          simp only [Bool.and_eq_true] at hc
                          rw [hbN] at hst
                          dsimp only at hst
                          split at hst
                          · cases hst
                            have hone : ∃ s, cs = [s] := by
                              rcases hq : ev C tx v with s | l' | l'
                              · rw [hq] at hcs
                                cases s <;> simp only [AV.cellsA] at hcs <;> first | (cases hcs; exact ⟨_, rfl⟩) | cases hcs
                              · rw [hq] at hv; rcases hv with hv | hv <;> simp [AV.int] at hv
                              · rw [hq] at hv; rcases hv with hv | hv <;> simp [AV.int] at hv
                            obtain ⟨s, rfl⟩ := hone
                            exact ⟨s, hcs, by rw [splice_set hlt], rfl, rfl⟩
                          · cases hst
                      · cases hst
                    obtain ⟨s, hcs, hMX, hrr, hqs⟩ := hMX
                    have hsv : ev C tx v = .one s := by
                      rcases hq : ev C tx v with s' | l' | l'
                      · rw [hq] at hcs
                        cases s' <;> simp only [AV.cellsA] at hcs <;> first | (cases hcs; rfl) | cases hcs
                      · rw [hq] at hv; rcases hv with hv | hv <;> simp [AV.int] at hv
                      · rw [hq] at hv; rcases hv with hv | hv <;> simp [AV.int] at hv
                    have hs : (AV.one s).int = .l k xv ∨ (AV.one s).int = .s k xv := by rw [← hsv]; exact hv
                    let k0 : AE → TM → Mem → Out := fun e t2 m2 => .need (e = .normal ∧ t2 = tx ∧ m2 = MX) (.done .any Mem.empty)
                    have hrun : (openRun C ops mem.n mem (ops.toList.take n) 0 tm mem fun tm mem => runOps C (fun _ _ _ _ _ => .bad 0) ops.toList (ops.toList.drop n) tm mem k0).sat (fun _ _ => True) := by
                      refine evalOps_run he hp1 ?_
                      rw [hd]
                      have hpk : pickB C o tx = none := by unfold pickB; rw [hop]
                      have hfk : forkO C o tx = none := by unfold forkO; rw [hop]
                      have hpu : pureOp C o tx mem = none := by
                        have h0 : pureOp1 C o tx mem = none := by
                          have hc : capOp C o tx mem = none := by unfold capOp; rw [hop]; split <;> rfl
                          unfold pureOp1; rw [hc]; unfold pureOp0; rw [hop]
                        have hi : ifaceOp C o tx = none := by unfold ifaceOp; rw [hop]
                        unfold pureOp; rw [h0]; dsimp only; rw [hi]; dsimp only; unfold strOp; rw [hop]
                      have hmo0 : memOp0 C o tx mem = some (qs, r, MX) := by unfold memOp0; rw [hop]; exact hst
                      have hmo : memOp C o tx mem = some (qs, r, MX) := by unfold memOp; rw [hmo0]
                      have hfi : opFine C tx o = true := by
                        unfold opFine
                        rw [hop]
                        split <;> rfl
                      simp only [runOps, plainOp, guarded, hog, hfi, hpk, hfk, forked, hpu, hmo, hod, putA]
                      rw [hqs]
                      exact ⟨⟨rfl, rfl, rfl⟩, trivial⟩
                    refine open_sound (d := 0) hC hB hr hrun ?_
                    intro tm2 mem2 env2 a2 w2 q1 q2 q3
                    refine runOps_sound hC (call := fun _ _ _ _ _ => .bad 0) (fun _ _ _ _ _ hh => False.elim hh) _ _ _ _ q1 B w0 env2 a2 w2 Q q2 ?_
                    intro e3 tm3 mem3 env3 a3 w3 p1 p2 p3
                    obtain ⟨⟨e0, e1, e2⟩, _⟩ := p1
                    subst e0; subst e1; subst e2
                    have p3' : Ext env mem.n env3 mem3.n := q3.trans p3
                    have hn3 : mem3.n = mem.n := by rw [hMX]; rfl
                    refine hk env3 a3 w3 ⟨(p2.size.trans hsx).trans anyAll_sz.symm, fun u => ?_, by have := p2.defers; rw [hdx, hn3] at this; rw [anyAll_df]; exact this, ?_⟩ (by rw [hn3] at p3'; exact p3')
                    · have := anyAll_R (env := env3) (m := mem3.n) (p2.size.trans hsx) hfr p2.tmp (fun u hu => AV.R_ext p3' (hoob env mem.n u hu hr.tmp)) u
                      rw [hn3] at this
                      exact this
                    · have hg3 : mem3.get b = some (.cells tt (l.set off s)) := by rw [hMX]; exact Tr.get_set_self _ _ _ _ hbN
                      have h4 := set_congr (l' := l.set off (.si k (iteI t xv y))) p2.mem hg3 (fun vs hvs => by
                        have := all2_set (o := off) (s := s) (s' := .si k (iteI t xv y)) hvs (by simp [hlt]) (fun v0 hv0 => by rw [ht]; exact (int_R hs).1 hv0)
                        rwa [List.set_set] at this)
                      refine h4.congr (by rw [hMX]; rfl) fun i ab' hi => ?_
                      by_cases hib : i = b
                      · subst hib
                        have e := Tr.get_set_eq _ _ _ _ hi
                        subst e
                        exact ⟨_, Tr.get_set_self _ _ _ _ hg3, fun h => h, fun h => h⟩
                      · refine ⟨ab', ?_, fun h => h, fun h => h⟩
                        simp only [Mem.get, Mem.set] at hi ⊢
                        rw [Tr.get_set_ne _ _ _ _ (Ne.symm hib)] at hi ⊢
                        rw [hMX]
                        simp only [Mem.set]
                        rw [Tr.get_set_ne _ _ _ _ (Ne.symm hib)]
                        exact hi
                  · have hx0 : Ext env mem.n env mem.n := Ext.refl _ _
                    have hw := hr.mem
                    refine hk env a w ⟨hr.size.trans anyAll_sz.symm, fun u => ?_, by rw [anyAll_df]; exact hr.defers, ?_⟩ hx0
                    · exact anyAll_R (env := env) (m := mem.n) hr.size (fun _ _ => rfl) (fun u => AV.R_ext hx0 (hr.tmp u)) (fun u hu => AV.R_ext hx0 (hoob env mem.n u hu hr.tmp)) u
                    · exact set_congr hw hbN (fun vs hvs => all2_set hvs hold (fun v0 hv0 => by rw [ht]; exact (int_R hy).1 hv0))
                · cases h
              split at h
              · rename_i k' y hy; exact fin k' y (.inl hy) h
              · rename_i k' y hy; exact fin k' y (.inr hy) h
              · cases h
            · cases h
          · cases h
        split at h
        · rename_i b off qs r MX k xv hx hst hv; exact main b off qs r MX k xv hx hst (.inl hv) h
        · rename_i b off qs r MX k xv hx hst hv; exact main b off qs r MX k xv hx hst (.inr hv) h
        · cases h
      · cases h
    · cases h
  · cases h
end
end Go.Ax

namespace Go.Ax
open Go Go.RowKit
def TaskWp {P : Program} (J : Judg P) : Task → (Exit → Act → World → Prop) → Act → World → Prop
  | .run c, Q, a, w => wpJ J c Q a w
  | .again c, Q, a, w => InLoopJ J c Q a w
  | .within rest body, Q, a, w => InScopeJ J body rest Q a w
section
variable {C : Cfg} {B : Nat → Prop} {w0 w : World} {env : Nat → Nat} {mem : Mem} {K : AV → Mem → Prop}
theorem splits_sat {k : IntKind} {e : Int} {t : Nat} {tm : TM} {go : TM → Out} : ∀ {vs : List Int}, (splits k e t tm go vs).sat K → ∃ v, e = v ∧ (go (tm.set t (.one (.li k v)))).sat K
  | [], h => h.elim
  | v :: vs, h => by
    by_cases he : e = v
    · exact ⟨v, he, h.1 (decide_eq_true he)⟩
    · exact splits_sat (h.2 (decide_eq_false he))
theorem splitAt_sat {id : Nat} {tm : TM} {a : Act} {go : TM → Out} (hr : Rel C B w0 env tm mem a w) (h : (splitAt C id tm go).sat K) : ∃ tm', Rel C B w0 env tm' mem a w ∧ (go tm').sat K := by
  unfold splitAt at h
  split at h
  · exact ⟨tm, hr, h⟩
  · rename_i t vs _
    split at h
    · rename_i k e ht
      obtain ⟨v, rfl, h'⟩ := splits_sat h
      refine ⟨_, ⟨hr.size.trans (set_sz _ _ _).symm, fun u => ?_, by rw [set_df]; exact hr.defers, hr.mem⟩, h'⟩
      unfold TM.set
      split
      · simp only [TM.get]
        by_cases hu : t = u
        · subst hu
          cases hq : (tm.t.set t (.one (.li k e))).get t with
          | none => trivial
          | some y =>
            rw [Tr.get_set_eq _ _ _ _ hq]
            have := hr.tmp t
            rw [ht] at this
            exact this
        · rw [Tr.get_set_ne _ _ _ _ hu]; exact hr.tmp u
      · exact hr.tmp u
    · exact ⟨tm, hr, h⟩
theorem loadAt_pointer {P : Program} {t : TypeId} {vx z : Value} {w w' : World} (h : (Instr.loadAt t vx).run P w = .ok z w') : ∃ a, vx = .pointer (some a) ∧ (loadVar t a).run P w = .ok z w' := by
  cases vx with
  | pointer p =>
    cases p with
    | some a => exact ⟨a, rfl, by simpa [Instr.loadAt, Instr.sureAddr] using h⟩
    | none => simp [Instr.loadAt, Instr.sureAddr] at h
  | _ => simp [Instr.loadAt, Instr.sureAddr] at h
def resV (tmps : Array Value) (r : ResultVar) : Sem Value :=
  match r with
  | .tmp t => pure (tmps.getD t undef)
  | .cell a t => do loadVar t (← asAddr (tmps.getD a undef))
theorem results_eq (fn : Func) (tmps : Array Value) : results fn tmps = (do let vs ← fn.results.mapM (resV tmps); pure (if h : vs.size = 1 then vs[0] else .tuple vs)) := by
  have : (fun r : ResultVar => (match r with | .tmp t => pure (tmps.getD t undef) | .cell a t => do loadVar t (← asAddr (tmps.getD a undef)) : Sem Value)) = resV tmps := by
    funext r
    cases r <;> rfl
  unfold results
  rw [← this]
  rfl
theorem resA_sound {tm : TM} {a : Act} {r : ResultVar} {v : AV} (hr : Rel C B w0 env tm mem a w) (h : resA C.P mem tm r = some v) :
    RunV C.P w env mem.n (resV a.tmps r) v := by
  cases r with
  | tmp t => cases h; exact ⟨_, rfl, hr.tmp t⟩
  | cell p t =>
    simp only [resA] at h
    split at h
    · rename_i v' hl
      cases h
      obtain ⟨z, hz, hR⟩ := loadA_sound hr.mem hl trivial (hr.tmp p)
      obtain ⟨x, hx, hz'⟩ := loadAt_pointer hz
      exact ⟨z, by simp only [resV, hx, asAddr, Sem.run_bind, Sem.run_pure, Result.andThen_ok, hz'], hR⟩
    · cases h
theorem tv_R {m : Nat} {x : AV} {t : TV} {v : Value} (h : x.tv = some t) (hx : x.R env m v) : t.R env m v := by
  cases x with
  | one s => cases h; exact hx
  | agg l => cases h; exact hx
  | tup l => cases h
theorem resL_sound {tm : TM} {a : Act} (hr : Rel C B w0 env tm mem a w) : ∀ {rs : List ResultVar} {l : List TV}, resL C.P mem tm rs = some l →
    ∃ vs : List Value, (rs.mapM (resV a.tmps)).run C.P w = .ok vs w ∧ All2 (TV.R env mem.n) l vs
  | [], l, h => by cases h; exact ⟨[], by simp, trivial⟩
  | r :: rs, l, h => by
    simp only [resL] at h
    split at h
    · rename_i v l' hv hl
      cases h
      obtain ⟨x, hx, ht⟩ := Option.bind_eq_some_iff.1 hv
      obtain ⟨z, hz, hR⟩ := resA_sound hr hx
      obtain ⟨vs, h1, h2⟩ := resL_sound hr hl
      refine ⟨z :: vs, ?_, tv_R ht hR, h2⟩
      rw [List.mapM_cons]
      simp only [Sem.run_bind, hz, Result.andThen_ok, h1, Sem.run_pure]
    · cases h
theorem resultsA_sound {fn : Func} {tm : TM} {a : Act} {v : AV} (hr : Rel C B w0 env tm mem a w) (h : resultsA C.P mem tm fn.results.toList = some v) : RunV C.P w env mem.n (results fn a.tmps) v := by
  have hmap : ∀ vs : List Value, (fn.results.toList.mapM (resV a.tmps)).run C.P w = .ok vs w →
      (results fn a.tmps).run C.P w = .ok (if h : vs.toArray.size = 1 then vs.toArray[0] else .tuple vs.toArray) w := fun vs hvs => by
    rw [results_eq, ← Array.toArray_toList (xs := fn.results), List.mapM_toArray, Sem.run_bind, Sem.run_map, hvs]
    rfl
  unfold resultsA at h
  split at h
  · rename_i r hrs
    obtain ⟨z, hz, hR⟩ := resA_sound hr h
    refine ⟨z, ?_, hR⟩
    have := hmap [z] (by
      rw [hrs, List.mapM_cons]
      simp [hz])
    simpa using this
  · rename_i rs hne
    split at h
    · rename_i l hl
      cases h
      obtain ⟨vs, h1, h2⟩ := resL_sound hr hl
      have hlen : ∀ {rs : List ResultVar} {l : List TV}, resL C.P mem tm rs = some l → l.length = rs.length := by
        intro rs
        induction rs with
        | nil => intro l h; cases h; rfl
        | cons r rs ih =>
          intro l h
          simp only [resL] at h
          split at h
          · rename_i _ l' _ hl'; cases h; simp [ih hl']
          · cases h
      have hsz : vs.toArray.size ≠ 1 := by
        have e1 := hlen hl
        have e2 := h2.length
        simp only [List.size_toArray]
        intro e
        have : fn.results.toList.length = 1 := by omega
        match hq : fn.results.toList, this with
        | [r], _ => exact hne r hq
      refine ⟨_, hmap vs h1, ?_⟩
      rw [dif_neg hsz]
      exact ⟨vs, rfl, h2⟩
    · cases h
theorem enter_R (hm : MR C B w0 env mem w) {args : List AV} {vals : List Value} {n : Nat} (ha : All2 (AV.R env mem.n) args vals) (hn : args.length ≤ n) :
    Rel C B w0 env (TM.enter n args) mem { tmps := vals.toArray ++ Array.replicate (n - vals.toArray.size) undef, defers := [] } w := by
  have hl := ha.length
  refine ⟨by simp [TM.enter]; omega, fun t => ?_, Dfs.nil, hm⟩
  have key : ∀ (l : List AV) (us : List Value) (i : Nat) (tr : Tr AV), All2 (AV.R env mem.n) l us →
      (∀ t x, tr.get t = some x → x.R env mem.n ((vals.toArray ++ Array.replicate (n - vals.toArray.size) undef).getD t undef)) →
      (∀ j v, us[j]? = some v → (vals.toArray ++ Array.replicate (n - vals.toArray.size) undef).getD (i + j) undef = v) →
      ∀ t x, (Tr.ofList tr i l).get t = some x → x.R env mem.n ((vals.toArray ++ Array.replicate (n - vals.toArray.size) undef).getD t undef) := by
    intro l
    induction l with
    | nil => intro us i tr _ h _ t x hx; exact h t x hx
    | cons y l ih =>
      intro us i tr hus h hv t x hx
      cases us with
      | nil => exact hus.elim
      | cons u us =>
        refine ih us (i + 1) (tr.set i y) hus.2 (fun t x hx => ?_) (fun j v hj => by have := hv (j + 1) v (by simpa using hj); simpa [Nat.add_assoc, Nat.add_comm 1 j] using this) t x hx
        by_cases hit : i = t
        · subst hit
          rw [Tr.get_set_eq _ _ _ _ hx]
          have := hv 0 u rfl
          simp only [Nat.add_zero] at this
          rw [this]
          exact hus.1
        · rw [Tr.get_set_ne _ _ _ _ hit] at hx
          exact h t x hx
  simp only [TM.get, TM.enter]
  cases hg : (Tr.ofList (Tr.mk 10) 0 args).get t with
  | none => trivial
  | some x =>
    refine key args vals 0 (Tr.mk 10) ha (fun t x hx => by rw [Tr.get_mk] at hx; cases hx) (fun j v hj => ?_) t x hg
    have hlt : j < vals.length := (List.getElem?_eq_some_iff.1 hj).1
    have hj' : vals[j] = v := by rw [List.getElem?_eq_getElem hlt] at hj; exact Option.some.inj hj
    simp [Array.getElem?_append, hlt, hj']
end
end Go.Ax

namespace Go.Ax
open Go Go.RowKit
theorem eqBs_iff : ∀ {l m : List Bool}, eqBs l m = true → l = m
  | [], [], _ => rfl
  | a :: l, b :: m, h => by
    simp only [eqBs, Bool.and_eq_true] at h
    rw [eqBs_iff h.2]
    cases a <;> cases b <;> simp_all
  | [], _ :: _, h => by cases h
  | _ :: _, [], h => by cases h
section
variable {C : Cfg} {B : Nat → Prop} {w0 w : World} {env : Nat → Nat} {tm : TM} {mem : Mem}
theorem stepO_sound (hC : COk C) {o : Oper} {tm' : TM} {mem' : Mem} {a : Act} {Kn : Act → World → Prop} {Q : Exit → Act → World → Prop} (h : stepO C o tm mem = some (tm', mem')) (hr : Rel C B w0 env tm mem a w)
    (hk : ∀ env' a' w', Rel C B w0 env' tm' mem' a' w' → Ext env mem.n env' mem'.n → Kn a' w') : o.guard = none ∧ opJ C.J o a w Kn Q := by
  unfold stepO at h
  split at h
  · rename_i hg hfine
    refine ⟨hg, ?_⟩
    split at h
    · rename_i v hp
      cases h
      refine ⟨fun hl => pure_ns hC hr hfine hp hl, fun w1 hw1 => ?_⟩
      have hr := hr.rely hw1
      obtain ⟨val, hv, hR⟩ := pureOp_sound hC.exs hr hp trivial
      rw [hv]
      exact hk env _ w1 (hr.put hr.mem (Ext.refl _ _) hR) (Ext.refl _ _)
    · cases h
    · split at h
      · rename_i v m hp
        cases h
        refine ⟨fun hl => opFine_ns hr hfine (memOp_callV hp) hl hC.lvl, fun w1 hw1 => ?_⟩
        have hr := hr.rely hw1
        obtain ⟨nx, val, w', env', hv, hnx, hm, hx, hR⟩ := memOp_sound hr hp trivial
        rw [hv]
        have hgo := hk env' _ w' (hr.put (d := o.dst) hm hx hR) hx
        rcases hnx with rfl | ⟨rfl, rfl⟩
        · exact hgo
        · exact hgo
      · cases h
  · cases h
theorem allD_first {ops : Array Oper} : List.replicate ops.size false ∈ allD ops := by
  unfold allD
  cases ops.size with
  | zero => simp [reachD]
  | succ n => simp [reachD]
theorem all_any (hC : COk C) {ops : Array Oper} (hcf : Confl C ops tm mem) {Q : Exit → Act → World → Prop}
    (hQ : ∀ s env' a' w', goA C ops.toList (List.replicate ops.size true) tm mem = some s → Rel C B w0 env' s.1 s.2 a' w' → Ext env mem.n env' s.2.n → Q .normal a' w') :
    ∀ (n : Nat) (D : List Bool) (s : TM × Mem) (env' : Nat → Nat) (a : Act) (w : World), D ∈ allD ops → D.length = ops.size → D.count false ≤ n → goA C ops.toList D tm mem = some s → Rel C B w0 env' s.1 s.2 a w → Ext env mem.n env' s.2.n → wpAnyJ C.J .any ops Q n D.toArray a w := by
  obtain ⟨hcl, heq⟩ := hcf
  simp only [closedD, Bool.and_eq_true, List.all_eq_true] at hcl
  obtain ⟨⟨hc1, hc2⟩, hsome⟩ := hcl
  have fin : ∀ (D : List Bool) (s : TM × Mem) (env' : Nat → Nat) (a : Act) (w : World), D ∈ allD ops → D.length = ops.size → goA C ops.toList D tm mem = some s → Rel C B w0 env' s.1 s.2 a w → Ext env mem.n env' s.2.n → Region.ready .any ops D.toArray = [] → Q .normal a w := fun D s env' a w hD hl hs hr hx he => by
    have h2 := hc2 D hD
    rw [he] at h2
    have h2 : ∀ x ∈ D, x = true := by simpa using h2
    have : D = List.replicate ops.size true := List.eq_replicate_iff.2 ⟨hl, h2⟩
    subst this
    exact hQ s env' a w hs hr hx
  intro n
  induction n with
  | zero =>
    intro D s env' a w hD hl hn hs hr hx
    have he : Region.ready .any ops D.toArray = [] := by
      refine List.eq_nil_iff_forall_not_mem.2 fun i hi => ?_
      have h1 := (mem_ready.1 hi).1
      have : false ∈ D := by
        rw [Array.getD_eq_getD_getElem?] at h1
        cases hq : D.toArray[i]? with
        | none => rw [hq] at h1; cases h1
        | some b =>
          rw [hq] at h1
          simp at h1 hq
          subst h1
          exact List.mem_of_getElem? hq
      have := List.count_pos_iff.2 this
      omega
    exact ⟨he, fin D s env' a w hD hl hs hr hx he⟩
  | succ n ih =>
    intro D s env' a w hD hl hn hs hr hx
    refine ⟨fun he => fin D s env' a w hD hl hs hr hx he, fun i hi => ?_⟩
    have hp : (D, i) ∈ pairsD ops := List.mem_flatMap.2 ⟨D, hD, List.mem_map.2 ⟨i, hi, rfl⟩⟩
    have h1 := (mem_ready.1 hi).1
    have hun : D[i]? = some false := by
      rw [Array.getD_eq_getD_getElem?] at h1
      cases hq : D.toArray[i]? with
      | none => rw [hq] at h1; cases h1
      | some b => rw [hq] at h1; simp at h1 hq; subst h1; exact hq
    have hstep := List.map_inj_left.1 heq (D, i) hp
    dsimp only at hstep
    rw [hs, Option.bind_some] at hstep
    have hsm := hsome (D, i) hp
    obtain ⟨s', hs'⟩ := Option.isSome_iff_exists.1 hsm
    dsimp only at hs'
    rw [hs'] at hstep
    obtain ⟨o, ho, hst⟩ := Option.bind_eq_some_iff.1 hstep
    have hin : D.set i true ∈ allD ops := by
      obtain ⟨E, hE, he⟩ := List.any_eq_true.1 (hc1 (D, i) hp)
      rw [eqBs_iff he]; exact hE
    have hlt : i < D.length := (List.getElem?_eq_some_iff.1 hun).1
    have hcnt : (D.set i true).count false ≤ n := by
      have hi' : D[i] = false := (List.getElem?_eq_some_iff.1 hun).2
      have := List.count_set (l := D) (i := i) (a := true) (b := false) hlt
      rw [hi'] at this
      simp at this
      have hpos : 0 < D.count false := List.count_pos_iff.2 (List.mem_of_getElem? hun)
      omega
    have hopj := stepO_sound hC (Q := Q) (Kn := wpAnyJ C.J .any ops Q n (D.set i true).toArray) hst hr fun env2 a2 w2 q1 q2 => ih (D.set i true) s' env2 a2 w2 hin (by simpa using hl) hcnt hs' q1 (hx.trans q2)
    unfold wpOpJ
    simp only [ho]
    have hw : Region.wanted o (yielded ops a.tmps) = true := by unfold Region.wanted; rw [hopj.1]
    rw [if_pos hw]
    have e : D.toArray.setIfInBounds i true = (D.set i true).toArray := by simp
    rw [e]
    exact hopj.2
theorem all_region (hC : COk C) {ops : Array Oper} {id : Nat} (hcf : Confl C ops tm mem) {s : TM × Mem} (hs : goA C ops.toList (List.replicate ops.size true) tm mem = some s) {a : Act} {Q : Exit → Act → World → Prop} (hr : Rel C B w0 env tm mem a w)
    (hQ : ∀ env' a' w', Rel C B w0 env' s.1 s.2 a' w' → Ext env mem.n env' s.2.n → Q .normal a' w') : wpJ C.J (.region id ops true) Q a w := by
  refine wpJ_region_any hC.mixed fun w1 h1 => ?_
  have hr1 := hr.rely h1
  have h := all_any (w0 := w0) (B := B) (env := env) hC hcf (Q := Q) (fun s' env' a' w' e q1 q2 => by rw [hs] at e; cases e; exact hQ env' a' w' q1 q2) ops.size (List.replicate ops.size false) (tm, mem) env a { w1 with drawn := w1.drawn + 1 } allD_first (by simp) (by simp) ?_ ⟨hr1.size, hr1.tmp, hr1.defers, hr1.mem.drew⟩ (Ext.refl _ _)
  · rw [show (List.replicate ops.size false).toArray = Array.replicate ops.size false by simp] at h
    exact h
  · have key : ∀ (l : List Oper) (n : Nat), goA C l (List.replicate n false) tm mem = some (tm, mem) := by
      intro l
      induction l with
      | nil => intro n; cases n <;> rfl
      | cons o l ih => intro n; cases n with
        | zero => rfl
        | succ n => exact ih n
    exact key _ _
end
end Go.Ax

namespace Go.Ax
open Go Go.RowKit
section
variable {C : Cfg} {K : AV → Mem → Prop}
def ExecOk (C : Cfg) (K : AV → Mem → Prop) (n : Nat) : Prop :=
  ∀ task tm mem k, (exec C n task tm mem k).sat K → ∀ B w0 env a w (Q : Exit → Act → World → Prop), Rel C B w0 env tm mem a w →
    (∀ ae tm' mem' env' a' w', (k ae tm' mem').sat K → Rel C B w0 env' tm' mem' a' w' → Ext env mem.n env' mem'.n → Q ae.conc a' w') → TaskWp C.J task Q a w
theorem MR.putObj {B : Nat → Prop} {w0 w : World} {env : Nat → Nat} {mem : Mem} {b : Nat} {x : LO} {ab' : AB} {o' : Obj} (h : MR C B w0 env mem w) (hg : mem.get b = some (.ob x)) (hb : ab'.R env mem.n B (w.putObj (env b) o') (env b)) :
    MR C B w0 env (mem.set b ab') (w.putObj (env b) o') :=
  MR.turn h hg rfl (fun _ hj => World.putObj_heap_other hj) World.putObj_size rfl rfl rfl hb
theorem DefJ.mono {P : Program} {J : Judg P} {g : FuncId} {args : Array Value} {pv : Option Value} {w : World} {R R' : World → Prop} (h : DefJ J g args pv w R) (hr : ∀ w', R w' → R' w') : DefJ J g args pv w R' :=
  fun fr cs S hS hm hR => h fr cs S hS hm fun w' q => hR w' (hr w' q)
theorem Dfs.ext' {env env' : Nat → Nat} {m m' : Nat} (hx : Ext env m env' m') {df : List DE} {ds : List Deferred} (h : All2 (DE.is env m) df ds) : Dfs env' m' df ds := Dfs.ext hx h
theorem shutA_sound (hC : COk C) {B : Nat → Prop} {w0 : World} {fn : Func} {tmps : Array Value} {R : Ending → World → Prop} : ∀ (df : List DE) (ds : List Deferred) (pv : Option Value) (mem : Mem) (env : Nat → Nat) (w : World) (k : Option Value → Mem → Out), (shutA C df pv mem k).sat K →
    MR C B w0 env mem w → Dfs env mem.n df ds → (∀ pv' mem' env' w', (k pv' mem').sat K → MR C B w0 env' mem' w' → Ext env mem.n env' mem'.n → leavesJ C.J fn tmps R [] pv' w') → leavesJ C.J fn tmps R ds pv w
  | [], [], pv, mem, env, w, k, h, hm, _, H => H pv mem env w h hm (Ext.refl _ _)
  | [], _ :: _, _, _, _, _, _, _, _, hd, _ => hd.elim
  | _ :: _, [], _, _, _, _, _, _, _, hd, _ => hd.elim
  | .mark d :: df, x :: ds, pv, mem, env, w, k, h, hm, hd, H => by
    obtain ⟨⟨rfl, hdn⟩, hds⟩ := hd
    unfold shutA at h
    split at h
    · rename_i hg
      have hblk := hm.blk d _ hg
      refine .inl ⟨env d, rfl, fun w1 h1 => ?_⟩
      obtain ⟨o, ho, rfl, hB⟩ := (hm.rely h1).blk d _ hg
      refine ⟨ho, shutA_sound hC df ds pv _ env _ k h ((hm.rely h1).putObj hg trivial) hds H⟩
    · exact h.elim
  | .call g args :: df, x :: ds, pv, mem, env, w, k, h, hm, hd, H => by
    obtain ⟨⟨caps, vals, rfl, ha⟩, hds⟩ := hd
    unfold shutA at h
    split at h
    · rename_i F hF
      split at h
      · rename_i ps mem' hp
        obtain ⟨h1, h2⟩ := needs_sat h
        obtain ⟨⟨gn, hgn, hgb⟩, hsum⟩ := hC.dcs _ (assoc_mem hF)
        refine .inr ⟨g, gn, caps.toArray, vals.toArray, rfl, hgn.1, hgn.2, hgb, fun w1 hw1 => ?_⟩
        have := hsum pv args mem mem' ps hp h1 B w0 w1 env (vals ++ caps) (hm.rely hw1) ha
        rw [show (vals ++ caps).toArray = vals.toArray ++ caps.toArray by simp] at this
        refine this.mono fun w' ⟨env', hm', hx⟩ => ?_
        exact shutA_sound hC df ds none mem' env' w' k h2 hm' (Dfs.ext' hx hds) fun pv2 mem2 env2 w2 q1 q2 q3 => H pv2 mem2 env2 w2 q1 q2 (hx.trans q3)
      · exact h.elim
    · exact h.elim
theorem leaveA_sound (hC : COk C) {B : Nat → Prop} {w0 w : World} {env : Nat → Nat} {tm : TM} {mem : Mem} {a : Act} {fn : Func} {e : AE} {k : AV → Mem → Out} {kp : Value → Mem → Out} {S Sp : Value → World → Prop} (h : (leaveA C fn k kp e tm mem).sat K) (hr : Rel C B w0 env tm mem a w)
    (hS : ∀ r mem' env' v w', (k r mem').sat K → MR C B w0 env' mem' w' → Ext env mem.n env' mem'.n → r.R env' mem'.n v → S v w')
    (hSp : ∀ v mem' env' w', (kp v mem').sat K → MR C B w0 env' mem' w' → Ext env mem.n env' mem'.n → Sp v w') : bodyPostJ C.J fn (CE S Sp) e.conc a w := by
  unfold leaveA at h
  split at h
  · rename_i pv hpv
    have key : leavesJ C.J fn a.tmps (CE S Sp) a.defers pv w := by
      refine shutA_sound hC tm.df a.defers pv mem env w _ h hr.mem hr.defers fun pv' mem' env' w' hk hm hx => ?_
      cases pv' with
      | none =>
        intro w1 h1
        dsimp only at hk
        split at hk
        · rename_i r hres
          obtain ⟨v, hv, hR⟩ := resultsA_sound (a := a) ⟨hr.size, fun t => AV.R_ext hx (hr.tmp t), hr.defers.ext hx, hm.rely h1⟩ hres
          exact ⟨v, hv, .inl ⟨v, rfl, hS r mem' env' v w1 hk (hm.rely h1) hx hR⟩⟩
        · exact hk.elim
      | some v => exact .inr ⟨v, rfl, hSp v mem' env' w' hk hm hx⟩
    cases e with
    | normal => cases hpv; exact key
    | ret => cases hpv; exact key
    | panic v => cases hpv; exact ⟨v, rfl, key⟩
    | exit id => cases hpv
    | goto l => cases hpv
  · exact h.elim
theorem body_calls (hC : COk C) {n : Nat} (hx : ExecOk C K n) {g : Nat} {fn : Func} {c : Code} (hfn : FnOk C.P g fn) (hb : fn.body = some c) {args : List AV} {mem : Mem} {k : AV → Mem → Out} {kp : Value → Mem → Out} (hlen : args.length ≤ fn.ntmps)
    (h : (exec C n (.run c) (TM.enter fn.ntmps args) mem (leaveA C fn k kp)).sat K) {B : Nat → Prop} {w0 w : World} {env : Nat → Nat} {vals : List Value} {S Sp : Value → World → Prop} (hm : MR C B w0 env mem w) (ha : All2 (AV.R env mem.n) args vals)
    (hS : ∀ r mem' env' v w', (k r mem').sat K → MR C B w0 env' mem' w' → Ext env mem.n env' mem'.n → r.R env' mem'.n v → S v w')
    (hSp : ∀ v mem' env' w', (kp v mem').sat K → MR C B w0 env' mem' w' → Ext env mem.n env' mem'.n → Sp v w') :
    CallsL C.J g vals.toArray w (CE S Sp) := by
  refine callsL_of_wp hfn.1 hb ?_
  refine hx _ _ _ _ h B w0 env _ w _ (enter_R hm ha hlen) ?_
  intro ae tm' mem' env' a' w' hk hr he
  exact leaveA_sound hC hk hr (fun r m2 env2 v w2 q1 q2 q3 q4 => hS r m2 env2 v w2 q1 q2 (he.trans q3) q4) (fun v m2 env2 w2 q1 q2 q3 => hSp v m2 env2 w2 q1 q2 (he.trans q3))
theorem sets_R {env : Nat → Nat} {m : Nat} : ∀ {ps : List Tmp} {args : List AV} {vals : List Value} {tm : TM} {tmps : Array Value}, All2 (AV.R env m) args vals → tmps.size = tm.sz → (∀ t, (tm.get t).R env m (tmps.getD t undef)) →
    ((ps.zip vals).foldl (fun tmps p => tmps.setIfInBounds p.1 p.2) tmps).size = (setsA (ps.zip args) tm).sz ∧ ∀ t, ((setsA (ps.zip args) tm).get t).R env m (((ps.zip vals).foldl (fun tmps p => tmps.setIfInBounds p.1 p.2) tmps).getD t undef)
  | [], _, _, _, _, _, hs, ht => ⟨hs, ht⟩
  | p :: ps, [], [], _, _, _, hs, ht => ⟨hs, ht⟩
  | _ :: _, [], _ :: _, _, _, h, _, _ => h.elim
  | _ :: _, _ :: _, [], _, _, h, _, _ => h.elim
  | p :: ps, x :: args, v :: vals, tm, tmps, h, hs, ht => by
    simp only [List.zip_cons_cons, List.foldl_cons, setsA]
    refine sets_R (ps := ps) h.2 (by rw [set_sz]; simpa using hs) fun t => ?_
    unfold TM.set
    split
    · rename_i hb
      have hlt : p < tmps.size := by rw [hs]; exact Nat.le_of_ble_eq_true hb
      simp only [TM.get]
      by_cases hpt : p = t
      · subst hpt
        have e : (tmps.setIfInBounds p v).getD p undef = v := by simp [hlt]
        rw [e]
        cases hg : (tm.t.set p x).get p with
        | none => trivial
        | some y => rw [Tr.get_set_eq _ _ _ _ hg]; exact h.1
      · rw [Tr.get_set_ne _ _ _ _ hpt]
        have e : (tmps.setIfInBounds p v).getD t undef = tmps.getD t undef := by simp [Array.getElem?_setIfInBounds_ne hpt]
        rw [e]; exact ht t
    · rename_i hb
      have hge : ¬ p < tmps.size := fun hlt => by
        have : Nat.blt p tm.sz = true := Nat.ble_eq_true_of_le (by rw [← hs]; exact hlt)
        rw [this] at hb; cases hb
      have e : tmps.setIfInBounds p v = tmps := by
        unfold Array.setIfInBounds
        rw [dif_neg hge]
      rw [e]; exact ht t
theorem setsA_df : ∀ {l : List (Tmp × AV)} {tm : TM}, (setsA l tm).df = tm.df
  | [], _ => rfl
  | _p :: l, _tm => (setsA_df (l := l)).trans (set_df _ _ _)
theorem roundA_sound {n : Nat} (hx : ExecOk C K n) {l : Nat} {args : List AV} {mem : Mem} {k : AV → Mem → Out} (h : (roundA (fun c => exec C n (.run c)) l args mem k).sat K) {B : Nat → Prop} {w0 w : World} {env : Nat → Nat} {vals : List Value} {S Sp : Value → World → Prop}
    (hm : MR C B w0 env mem w) (ha : All2 (AV.R env mem.n) args vals) (hS : ∀ r mem' env' v w', (k r mem').sat K → MR C B w0 env' mem' w' → Ext env mem.n env' mem'.n → r.R env' mem'.n v → S v w') : TgtOk C env mem w vals S Sp (.yl l) := by
  unfold roundA at h
  split at h
  · rename_i st pe tm ps as bd d hg
    split at h
    · rename_i hc
      simp only [Bool.and_eq_true] at hc
      obtain ⟨⟨hlen, has⟩, hbd⟩ := hc
      have hlen := Nat.eq_of_beq_eq_true hlen
      obtain ⟨o, ho, ⟨fid, tmps, rfl, hd, hsz, ht⟩, hnB⟩ := hm.blk l _ hg
      have hll := hm.lt l _ hg
      have hvl : vals.toArray.size = ps.size := by have := ha.length; simp; omega
      refine ⟨fid, _, as, bd, run_yield ho hvl, roundJ has hbd ?_⟩
      have hfold : ((ps.zip vals.toArray).foldl (fun tmps (t, a) => tmps.setIfInBounds t a) tmps) = (ps.toList.zip vals).foldl (fun tmps p => tmps.setIfInBounds p.1 p.2) tmps := by
        rw [← Array.foldl_toList]
        simp
      rw [hfold]
      obtain ⟨q1, q2⟩ := sets_R (ps := ps.toList) (tm := ⟨tm.sz, tm.t, []⟩) ha hsz ht
      -- a round's end
      have fin : ∀ (mem2 : Mem) (env2 : Nat → Nat) (w2 : World) (ae : AE) (tm2 : TM), (endRoundA l k ae tm2 mem2).sat K → MR C B w0 env2 mem2 w2 → Ext env mem.n env2 mem2.n →
          match ae with
          | .normal => roundEnd C.J (env l) (CE S Sp) none w2
          | .ret => roundEnd C.J (env l) (CE S Sp) (some .ret) w2
          | .exit id => roundEnd C.J (env l) (CE S Sp) (some (.exit id)) w2
          | .goto t => roundEnd C.J (env l) (CE S Sp) (some (.goto t)) w2
          | .panic _ => False := fun mem2 env2 w2 ae tm2 hk hm2 hx2 => by
        have hel : env2 l = env l := hx2.2 l hll
        unfold endRoundA at hk
        split at hk
        · rename_i st2 pe2 tmx psx asx bdx dx hg2
          have key : ∀ (jump : Option Code) (b : Bool) (st' : LoopState), st' = (if jump.isNone then .ready else .done) → b = jump.isNone → (k (.one (.lb b)) (mem2.set l (.ob (.lp st' jump tmx psx asx bdx dx)))).sat K → roundEnd C.J (env l) (CE S Sp) jump w2 := fun jump b st' hst hb hk w3 h3 => by
            have hm3 := hm2.rely h3
            obtain ⟨o2, ho2, ⟨fid2, tmps2, rfl, hd2, hsz2, ht2⟩, hnB2⟩ := hm3.blk l _ hg2
            rw [hel] at ho2
            refine ⟨_, ho2, .inl ⟨_, rfl, ?_⟩⟩
            have hlt : env2 l < w3.heap.size := by rw [hel]; exact (Array.getElem?_eq_some_iff.1 ho2).1
            have := hm3.putObj (ab' := .ob (.lp st' jump tmx psx asx bdx dx)) (o' := .loop { state := st', pending := jump, fn := fid2, tmps := tmps2, params := psx, assign := asx, body := bdx, defers := env2 dx }) hg2
              ⟨_, World.putObj_heap_same hlt, ⟨fid2, tmps2, rfl, hd2, hsz2, ht2⟩, hnB2⟩
            rw [hel] at this
            subst hst hb
            exact hS _ _ env2 _ _ hk this hx2 ⟨trivial, rfl⟩
          cases ae with
          | normal => exact key none true .ready rfl rfl hk
          | ret => exact key (some .ret) false .done rfl rfl hk
          | exit id => exact key (some (.exit id)) false .done rfl rfl hk
          | goto t => exact key (some (.goto t)) false .done rfl rfl hk
          | panic v => exact hk.elim
        · exact hk.elim
      refine hx (.run as) _ _ _ h B w0 env { tmps := _, defers := [] } w _ ⟨q1, q2, by rw [setsA_df]; exact Dfs.nil, hm⟩ ?_
      intro ae tm1 mem1 env1 a1 w1 hk1 hr1 hx1
      cases ae with
      | normal =>
        refine ⟨rfl, ?_⟩
        dsimp only at hk1
        split at hk1
        · rename_i pe1 tmx psx asx bdx dx hg1
          intro w2 h2
          have hm2 := hr1.mem.rely h2
          have hel : env1 l = env l := hx1.2 l hll
          obtain ⟨o2, ho2, ⟨fid2, tmps2, rfl, hd2, hsz2, ht2⟩, hnB2⟩ := hm2.blk l _ hg1
          rw [hel] at ho2
          refine ⟨_, ho2, rfl, ?_⟩
          have hlt : env1 l < w2.heap.size := by rw [hel]; exact (Array.getElem?_eq_some_iff.1 ho2).1
          have hm3 := hm2.putObj (ab' := .ob (.lp .busy pe1 tmx psx asx bdx dx)) (o' := .loop { state := .busy, pending := pe1, fn := fid2, tmps := tmps2, params := psx, assign := asx, body := bdx, defers := env1 dx }) hg1
            ⟨_, World.putObj_heap_same hlt, ⟨fid2, tmps2, rfl, hd2, hsz2, ht2⟩, hnB2⟩
          rw [hel] at hm3
          refine hx (.run bd) _ _ _ hk1 B w0 env1 a1 _ _ ⟨hr1.size, hr1.tmp, hr1.defers, hm3⟩ ?_
          intro ae2 tm2 mem2 env2 a2 w3 hk2 hr2 hx2
          have := fin mem2 env2 w3 ae2 tm2 hk2 hr2.mem (hx1.trans hx2)
          cases ae2 with
          | normal => exact this
          | ret => exact this
          | exit id => exact this
          | goto t => exact this
          | panic v => exact this.elim
        · exact hk1.elim
      | exit id => exact hk1.elim
      | goto t => exact hk1.elim
      | ret => exact hk1.elim
      | panic v => exact hk1.elim
    · exact h.elim
  · exact h.elim
theorem callWith_ok (hC : COk C) {n : Nat} (hx : ExecOk C K n) : CallOk C K (callWith C fun c => exec C n (.run c)) := by
  intro tgt args mem k kp h B w0 env w vals S Sp hm ha hS hSp
  cases tgt with
  | yl l => exact roundA_sound hx h hm ha hS
  | fn g =>
    unfold callWith at h
    dsimp only at h
    split at h
    · rename_i F hF
      split at h
      · rename_i ps r hp
        obtain ⟨h1, h2⟩ := needs_sat h
        have h2 := bind_sat h2
        obtain ⟨hfn, hsum⟩ := hC.fsum _ (sumF_mem hF)
        refine ⟨hfn, (hsum args mem r ps hp h1 B w0 w env vals hm.bare ha).mono ?_⟩
        rintro e w' ⟨v, he, hb, hr⟩
        obtain ⟨env', q1, q2, q3⟩ := hm.result hb hr
        exact .inl ⟨v, he, hS _ _ env' v w' h2 q1 q2 q3⟩
      · exact h.elim
    split at h
    · rename_i F hF
      split at h
      · rename_i ps r mem' hp
        obtain ⟨h1, h2⟩ := needs_sat h
        have hq : (g, F) ∈ C.qs := by
          unfold sumQ at hF
          split at hF
          · cases hF
          · exact assoc_mem hF
        obtain ⟨hfn, hsum⟩ := hC.qsum _ hq
        refine ⟨hfn, (hsum args mem r mem' ps hp h1 B w0 w env vals hm ha).mono ?_⟩
        rintro e w' ⟨v, env', he, hm', hx', hR⟩
        exact .inl ⟨v, he, hS r mem' env' v w' h2 hm' hx' hR⟩
      · exact h.elim
    split at h
    · rename_i F hF
      split at h
      · rename_i ps r hp
        split at h
        · rename_i hd
          obtain ⟨h1, h2⟩ := needs_sat h
          obtain ⟨hfn, hsum⟩ := hC.ps _ (assoc_mem hF)
          refine ⟨hfn, (hsum args mem r ps hp h1 B w0 w env vals hm.bare ha).mono ?_⟩
          rintro e w' ⟨⟨v, he, hR⟩, hbl⟩
          exact .inl ⟨v, he, hS r mem env v w' h2 (hm.later hbl) (Ext.refl _ _) hR⟩
        · exact h.elim
      · exact h.elim
    · split at h
      · rename_i fn hF
        have hfn := hC.fns _ (assoc_mem hF)
        split at h
        · rename_i c hb hlen
          exact ⟨⟨fn, hfn, by rw [hb]; rfl⟩, (body_calls hC hx hfn hb (of_decide_eq_true hlen) h hm ha hS hSp).calls⟩
        · exact h.elim
      · exact h.elim
theorem loopC_spec {body bd : Code} {tm : TM} {mem : Mem} {r : Option (List Cnd × AE × TM × Mem)} (h : loopC C body tm mem = some (bd, r)) : ∃ id F, (id, bd, F) ∈ C.lp ∧ r = F tm mem := by
  unfold loopC at h
  split at h
  · cases h
  · split at h
    · rename_i id _
      split at h
      · rename_i bd' F hA
        cases h
        exact ⟨id, F, assoc_mem hA, rfl⟩
      · cases h
    · cases h
def Stb {P : Program} (J : Judg P) (Q : Exit → Act → World → Prop) : Exit → Act → World → Prop := fun e a w => ∀ w1, J.rel w w1 → Q e a w1
theorem range_sound (hC : COk C) {n : Nat} (hx : ExecOk C K n) {g : Operand} {f : Nat} {caps : List CV} {ps : Array Tmp} {as bd : Code} {tm : TM} {mem : Mem} {k : AE → TM → Mem → Out} {B : Nat → Prop} {w0 w : World} {env : Nat → Nat} {a : Act} {Q : Exit → Act → World → Prop}
    (hr : Rel C B w0 env tm mem a w) (hg : ev C tm g = .one (.fn f caps))
    (h : (callWith C (fun c => exec C n (.run c)) (.fn f) (.one (.yl (mem.n + 1)) :: caps.map CV.av) ((mem.push (.ob .df)).push (.ob (.lp .ready none ⟨tm.sz, tm.t, []⟩ ps as bd mem.n))) (endLoopA (mem.n + 1) mem.n tm k) (fun _ _ => .bad 66)).sat K)
    (hk : ∀ ae tm' mem' env' a' w', (k ae tm' mem').sat K → Rel C B w0 env' tm' mem' a' w' → Ext env mem.n env' mem'.n → Q ae.conc a' w') : wpJ C.J (.rangeFunc g ps as bd) Q a w := by
  have hev := ev_R hr g
  rw [hg] at hev
  obtain ⟨hcok, hfe⟩ := hev
  -- the two blocks
  have blocks : ∀ w1, C.J.rel w w1 → ∀ fid : FuncId, ∃ env2 : Nat → Nat, env2 mem.n = w1.heap.size ∧ env2 (mem.n + 1) = w1.heap.size + 1 ∧ Ext env mem.n env2 (mem.n + 2) ∧
      MR C B w0 env2 ((mem.push (.ob .df)).push (.ob (.lp .ready none ⟨tm.sz, tm.t, []⟩ ps as bd mem.n))) ((w1.alloc (.deferred (some []))).alloc (.loop { state := .ready, pending := none, fn := fid, tmps := a.tmps, params := ps, assign := as, body := bd, defers := w1.heap.size })) := fun w1 h1 fid => by
    have hm1 := hr.mem.rely h1
    have nB : ∀ x, w1.heap.size ≤ x → ¬ B x := fun x hx hB => by have := hm1.base x hB; omega
    have p1 := hm1.pushObj (ab := .ob .df) (o := .deferred (some [])) ⟨_, heap_alloc_new _ _, rfl, nB _ (Nat.le_refl _)⟩
    have x1 := Ext.push env mem.n w1.heap.size
    have e1 : envPush env mem.n w1.heap.size mem.n = w1.heap.size := if_pos rfl
    have hsz : (w1.alloc (.deferred (some []))).heap.size = w1.heap.size + 1 := World.size_alloc ..
    have x2 := Ext.push (envPush env mem.n w1.heap.size) (mem.n + 1) (w1.heap.size + 1)
    have p2 := p1.pushObj (ab := .ob (.lp .ready none ⟨tm.sz, tm.t, []⟩ ps as bd mem.n)) (o := .loop { state := .ready, pending := none, fn := fid, tmps := a.tmps, params := ps, assign := as, body := bd, defers := w1.heap.size })
      ⟨_, heap_alloc_new _ _, ⟨fid, a.tmps, by
          show Obj.loop _ = Obj.loop _
          congr 2
          rw [hsz]
          exact (((x2.2 mem.n (by omega)).trans e1)).symm, by show mem.n < mem.n + 1 + 1; omega, hr.size, fun t => by
          rw [hsz]
          exact AV.R_ext x2 (AV.R_ext x1 (hr.tmp t))⟩, nB _ (by rw [hsz]; omega)⟩
    rw [hsz] at p2
    have e2 : envPush (envPush env mem.n w1.heap.size) (mem.n + 1) (w1.heap.size + 1) (mem.n + 1) = w1.heap.size + 1 := if_pos rfl
    exact ⟨_, (x2.2 mem.n (by omega)).trans e1, e2, x1.trans x2, p2⟩
  have tgt : ∀ w1, C.J.rel w w1 → ∀ fid : FuncId, (∃ fn, FnOk C.P f fn ∧ fn.body.isSome = true) ∧ CallsJ C.J f (#[.func (.yield (w1.heap.size + 1)) #[] #[]] ++ (caps.map (CV.conc env)).toArray)
      ((w1.alloc (.deferred (some []))).alloc (.loop { state := .ready, pending := none, fn := fid, tmps := a.tmps, params := ps, assign := as, body := bd, defers := w1.heap.size }))
      (CE (fun _ w' => loopEnd C.J (w1.heap.size + 1) Q { a with defers := { target := .collected w1.heap.size, args := #[] } :: a.defers } w') (fun _ _ => False)) := fun w1 h1 fid => by
    obtain ⟨env2, e1, e2, x2, hm2⟩ := blocks w1 h1 fid
    have ha : All2 (AV.R env2 (mem.n + 2)) (.one (.yl (mem.n + 1)) :: caps.map CV.av) (.func (.yield (w1.heap.size + 1)) #[] #[] :: caps.map (CV.conc env)) :=
      ⟨⟨by show mem.n + 1 < mem.n + 2; omega, by simp only [SV.conc]; rw [e2]⟩, All2.both _ _ caps fun c hc => AV.R_ext x2 (CV.av_R (hcok c hc))⟩
    have := callWith_ok hC hx (.fn f) _ _ _ _ h B w0 env2 _ _ (fun _ w' => loopEnd C.J (w1.heap.size + 1) Q { a with defers := { target := .collected w1.heap.size, args := #[] } :: a.defers } w') (fun _ _ => False) hm2 ha
      (fun r mem' env' v w' q1 q2 q3 q4 => ?_) (fun v mem' env' w' q1 _ _ => q1)
    · have e : (#[Value.func (.yield (w1.heap.size + 1)) #[] #[]] ++ (caps.map (CV.conc env)).toArray) = (Value.func (.yield (w1.heap.size + 1)) #[] #[] :: caps.map (CV.conc env)).toArray := by simp
      rw [e]; exact this
    · have hel : env' (mem.n + 1) = w1.heap.size + 1 := (q3.2 _ (by show mem.n + 1 < mem.n + 1 + 1; omega)).trans e2
      have hed : env' mem.n = w1.heap.size := (q3.2 _ (by show mem.n < mem.n + 1 + 1; omega)).trans e1
      have hx' : Ext env mem.n env' mem'.n := x2.trans q3
      have fin : ∀ (st : LoopState) (pe : Option Code) (tmx : TM) (psx : Array Tmp) (asx bdx : Code) (dx : Nat) (ae : AE), mem'.get (mem.n + 1) = some (.ob (.lp st pe tmx psx asx bdx dx)) → st ≠ .busy → (k ae ⟨tm.sz, tm.t, .mark mem.n :: tm.df⟩ (mem'.set (mem.n + 1) .gone)).sat K →
          ∀ w2, C.J.rel w' w2 → ∃ r : Loop, w2.heap[w1.heap.size + 1]? = some (.loop r) ∧ r.state ≠ .busy ∧ r.pending = pe ∧ Q ae.conc { a with defers := { target := .collected w1.heap.size, args := #[] } :: a.defers } (w2.putObj (w1.heap.size + 1) (.loop { r with state := .exhausted })) := fun st pe tmx psx asx bdx dx ae hgl hst hsat w2 h2 => by
        have hm3 := q2.rely h2
        obtain ⟨o2, ho2, ⟨fid2, tmps2, rfl, hd2, hsz2, ht2⟩, hnB2⟩ := hm3.blk _ _ hgl
        rw [hel] at ho2
        refine ⟨_, ho2, hst, rfl, ?_⟩
        have hm4 := hm3.putObj (ab' := .gone) (o' := .loop { state := .exhausted, pending := pe, fn := fid2, tmps := tmps2, params := psx, assign := asx, body := bdx, defers := env' dx }) hgl trivial
        rw [hel] at hm4
        exact hk ae _ _ env' _ _ hsat ⟨hr.size, fun t => AV.R_ext hx' (hr.tmp t), ⟨⟨by rw [hed], Nat.lt_of_lt_of_le (by show mem.n < mem.n + 1 + 1; omega) q3.1⟩, hr.defers.ext hx'⟩, hm4⟩ hx'
      unfold endLoopA at q1
      intro w2 h2
      split at q1
      · rename_i hgl
        obtain ⟨r2, r3, r4, r5, r6⟩ := fin _ _ _ _ _ _ _ .normal hgl (by simp) q1 w2 h2
        exact ⟨r2, r3, r4, by obtain ⟨x1, x2, x3, x4, x5, x6, x7, x8⟩ := r2; dsimp only at r5; subst r5; exact r6⟩
      · rename_i hgl
        obtain ⟨r2, r3, r4, r5, r6⟩ := fin _ _ _ _ _ _ _ .ret hgl (by simp) q1 w2 h2
        exact ⟨r2, r3, r4, by obtain ⟨x1, x2, x3, x4, x5, x6, x7, x8⟩ := r2; dsimp only at r5; subst r5; exact r6⟩
      · rename_i id _ _ _ _ _ hgl
        obtain ⟨r2, r3, r4, r5, r6⟩ := fin _ _ _ _ _ _ _ (.exit id) hgl (by simp) q1 w2 h2
        exact ⟨r2, r3, r4, by obtain ⟨x1, x2, x3, x4, x5, x6, x7, x8⟩ := r2; dsimp only at r5; subst r5; exact r6⟩
      · rename_i t _ _ _ _ _ hgl
        obtain ⟨r2, r3, r4, r5, r6⟩ := fin _ _ _ _ _ _ _ (.goto t) hgl (by simp) q1 w2 h2
        exact ⟨r2, r3, r4, by obtain ⟨x1, x2, x3, x4, x5, x6, x7, x8⟩ := r2; dsimp only at r5; subst r5; exact r6⟩
      · exact q1.elim
  obtain ⟨⟨fn, hfn, hb⟩, _⟩ := tgt w (C.J.refl w) 0
  refine wpJ_rangeFunc hfe hfn.1 hfn.2 hb fun w1 h1 fid => (tgt w1 h1 fid).2.mono fun e w' he => ?_
  rcases he with ⟨v, rfl, hl⟩ | ⟨v, _, hf⟩
  · exact ⟨v, rfl, hl⟩
  · exact hf.elim
theorem callEnd_Q {o : Oper} {a : Act} {M : Act → World → Prop} {Q Q' : Exit → Act → World → Prop} (h : ∀ c a w, Q' (.panic c) a w → Q (.panic c) a w) : ∀ e w, callEnd o a M Q' e w → callEnd o a M Q e w := by
  intro e w he
  cases e with
  | returned v => exact he
  | panicked c => exact h _ _ _ he
  | outgrown => exact he
theorem uponJ_Q {P : Program} {J : Judg P} {o : Oper} {a : Act} {M : Act → World → Prop} {Q Q' : Exit → Act → World → Prop} (h : ∀ c a w, Q' (.panic c) a w → Q (.panic c) a w) {r : Result Next} (hh : uponJ J o a M Q' r) : uponJ J o a M Q r := by
  cases r with
  | ok n w' =>
    cases n <;> first
      | exact hh
      | exact CallsJ.mono hh (callEnd_Q h)
      | exact RoundJ.mono hh (callEnd_Q h)
      | exact hh.elim
  | halt x w' => cases x <;> first | exact h _ _ _ hh | exact hh.elim
theorem segRun_sound (hC : COk C) {call : CallK} (hcall : CallOk C K call) {ops : Array Oper} (hback : backB ops = true) {B : Nat → Prop} {w0 : World} : ∀ (f : Nat) (i : Nat) (pl : List (Option Nat)), segPlan ops f i = some pl → ∀ (tm : TM) (mem : Mem) (k : AE → TM → Mem → Out), (segRun C call ops pl i tm mem k).sat K →
    ∀ (env : Nat → Nat) (a : Act) (w : World) (Q : Exit → Act → World → Prop), Rel C B w0 env tm mem a w →
      (∀ e tm' mem' env' a' w', (k e tm' mem').sat K → Rel C B w0 env' tm' mem' a' w' → Ext env mem.n env' mem'.n → Q e.conc a' w') → wpAnyJ C.J .any ops Q (ops.size - i) (firstsA ops i) a w
  | 0, i, pl, hp, tm, mem, k, h, env, a, w, Q, hr, hk => by cases hp
  | f + 1, i, pl, hp, tm, mem, k, h, env, a, w, Q, hr, hk => by
    simp only [segPlan] at hp
    split at hp
    · rename_i hle
      cases hp
      exact any_done (Nat.le_of_ble_eq_true hle) (hk .normal tm mem env a w h hr (Ext.refl _ _))
    · rename_i hle
      have hlt : i < ops.size := by
        rcases Nat.lt_or_ge i ops.size with h' | h'
        · exact h'
        · rw [Nat.ble_eq_true_of_le h'] at hle; cases hle
      split at hp
      · rename_i hone
        obtain ⟨pl', hpl, rfl⟩ := Option.map_eq_some_iff.1 hp
        have hr1 := of_decide_eq_true hone
        simp only [segRun] at h
        have ho : (ops.toList.drop i).take 1 = [ops[i]] := by
          rw [List.drop_eq_getElem_cons (by simpa using hlt)]
          simp
        rw [ho] at h
        refine any_one hlt hr1 ?_
        let Q' : Exit → Act → World → Prop := fun e a w => match e with
          | .normal => wpAnyJ C.J .any ops Q (ops.size - (i + 1)) (firstsA ops (i + 1)) a w
          | e => Q e a w
        have hw : wpListJ C.J ops Q' [ops[i]] a w := runOps_sound hC hcall [ops[i]] tm mem _ h B w0 env a w Q' hr fun e tm' mem' env' a' w' q1 q2 q3 => by
          cases e with
          | normal => exact segRun_sound hC hcall hback f (i + 1) pl' hpl tm' mem' k q1 env' a' w' Q q2 fun e2 tm2 mem2 env2 a2 w2 p1 p2 p3 => hk e2 tm2 mem2 env2 a2 w2 p1 p2 (q3.trans p3)
          | exit id => exact hk _ tm' mem' env' a' w' q1 q2 q3
          | goto l => exact hk _ tm' mem' env' a' w' q1 q2 q3
          | ret => exact hk _ tm' mem' env' a' w' q1 q2 q3
          | panic v => exact hk _ tm' mem' env' a' w' q1 q2 q3
        unfold wpListJ at hw
        unfold wpOpJ
        simp only [Array.getElem?_eq_getElem hlt]
        split at hw
        · rename_i hwd
          rw [if_pos hwd]
          exact ⟨hw.1, fun w1 h1 => uponJ_Q (fun c a w q => q) (hw.2 w1 h1)⟩
        · rename_i hwd
          rw [if_neg hwd]
          exact hw
      · split at hp
        · rename_i hc
          obtain ⟨pl', hpl, rfl⟩ := Option.map_eq_some_iff.1 hp
          simp only [segRun] at h
          simp only [Bool.and_eq_true, Bool.or_eq_true] at hc
          obtain ⟨⟨⟨h1, h2⟩, h3⟩, h4⟩ := hc
          exact open_part hC hback (Nat.le_of_ble_eq_true h1) (Nat.le_of_ble_eq_true h2) (h3.imp Nat.eq_of_beq_eq_true id) h4 hr h fun tm' mem' env' a' w' q1 q2 q3 =>
            segRun_sound hC hcall hback f _ pl' hpl tm' mem' k q1 env' a' w' Q q2 fun e2 tm2 mem2 env2 a2 w2 p1 p2 p3 => hk e2 tm2 mem2 env2 a2 w2 p1 p2 (q3.trans p3)
        · cases hp
theorem bothAll_all {α : Type} {go : α → Out} : ∀ {l : List α}, (bothAll (l.map go)).sat K → ∀ v ∈ l, (go v).sat K
  | [], h, _, _ => h.elim
  | [x], h, v, hv => by
    simp only [List.mem_cons, List.not_mem_nil, or_false] at hv
    subst hv; exact h
  | x :: y :: l, h, v, hv => by
    have h : (go x).sat K ∧ (bothAll ((y :: l).map go)).sat K := h
    rcases List.mem_cons.1 hv with rfl | hv
    · exact h.1
    · exact bothAll_all (l := y :: l) h.2 v hv
def AgrF (F : List Tmp) (a a' : Act) : Prop := a'.defers = a.defers ∧ a'.tmps.size = a.tmps.size ∧ ∀ t, t ∉ F → a'.tmps.getD t undef = a.tmps.getD t undef
theorem AgrF.refl (F : List Tmp) (a : Act) : AgrF F a a := ⟨rfl, rfl, fun _ _ => rfl⟩
theorem AgrF.of_put {F : List Tmp} {a a' : Act} {d : Option Tmp} {v : Value} (hd : ∀ t, d = some t → t ∈ F) (h : AgrF F a a') : AgrF F (a.put d v) a' :=
  ⟨h.1.trans put_defers'.symm, h.2.1.trans put_size.symm, fun t ht => by rw [put_get (fun e => ht (hd t e))]; exact h.2.2 t ht⟩
theorem clear_get : ∀ {F : List Tmp} {tm : TM}, (clearT F tm).sz = tm.sz ∧ (clearT F tm).df = tm.df ∧ ∀ t, (clearT F tm).get t = .any ∨ ((clearT F tm).get t = tm.get t ∧ (t ∉ F ∨ tm.sz ≤ t))
  | [], tm => ⟨rfl, rfl, fun t => .inr ⟨rfl, .inl (by simp)⟩⟩
  | u :: F, tm => by
    obtain ⟨h1, h2, h3⟩ := clear_get (F := F) (tm := tm.set u .any)
    refine ⟨h1.trans (set_sz _ _ _), h2.trans (set_df _ _ _), fun t => ?_⟩
    rcases h3 t with h | ⟨h, h'⟩
    · exact .inl h
    · by_cases hut : u = t
      · subst hut
        by_cases hlt : u < tm.sz
        · refine .inl (h.trans ?_)
          unfold TM.set
          rw [show Nat.blt u tm.sz = true from Nat.ble_eq_true_of_le hlt]
          simp only [TM.get]
          cases hq : (tm.t.set u .any).get u with
          | none => rfl
          | some y => rw [Tr.get_set_eq _ _ _ _ hq]
        · refine .inr ⟨h.trans ?_, .inr (Nat.le_of_not_lt hlt)⟩
          unfold TM.set
          have : Nat.blt u tm.sz = false := by
            cases hb : Nat.blt u tm.sz with
            | false => rfl
            | true => exact absurd (Nat.le_of_ble_eq_true hb) hlt
          rw [this]
      · refine .inr ⟨h.trans ?_, ?_⟩
        · unfold TM.set
          split
          · simp only [TM.get]; rw [Tr.get_set_ne _ _ _ _ hut]
          · rfl
        · rw [set_sz] at h'
          exact h'.imp (fun q => by simp only [List.mem_cons, not_or]; exact ⟨fun e => hut e.symm, q⟩) id
theorem Rel.clear {B : Nat → Prop} {w0 w : World} {env : Nat → Nat} {tm : TM} {mem : Mem} {a a' : Act} {F : List Tmp} (h : Rel C B w0 env tm mem a w) (ha : AgrF F a a') : Rel C B w0 env (clearT F tm) mem a' w := by
  obtain ⟨h1, h2, h3⟩ := clear_get (F := F) (tm := tm)
  refine ⟨ha.2.1.trans (h.size.trans h1.symm), fun t => ?_, by rw [h2, ha.1]; exact h.defers, h.mem⟩
  rcases h3 t with q | ⟨q, q'⟩
  · rw [q]; trivial
  · rw [q]
    rcases q' with q' | q'
    · rw [ha.2.2 t q']; exact h.tmp t
    · have e1 : a'.tmps.getD t undef = undef := by
        have : ¬ t < a'.tmps.size := by rw [ha.2.1, h.size]; omega
        simp [this]
      have e2 : a.tmps.getD t undef = undef := by
        have : ¬ t < a.tmps.size := by rw [h.size]; omega
        simp [this]
      rw [e1, ← e2]; exact h.tmp t
theorem pickFl_spec {ops : Array Oper} {listed : Array Bool} {tm : TM} {i : Nat} {o : Oper} {ps : List Cnd} {v : AV} : ∀ {l : List Nat}, pickFl C ops listed tm l = some (i, o, ps, v) → i ∈ l ∧ ops[i]? = some o ∧ Region.free .any ops listed i = true ∧ pureFl C ops.toList o tm = some (ps, v)
  | [], h => by cases h
  | j :: l, h => by
    unfold pickFl at h
    split at h
    · rename_i o' ho hf
      split at h
      · rename_i ps' v' hp
        cases h
        exact ⟨List.mem_cons_self .., ho, hf, hp⟩
      · obtain ⟨q1, q2⟩ := pickFl_spec h; exact ⟨List.mem_cons_of_mem _ q1, q2⟩
    · obtain ⟨q1, q2⟩ := pickFl_spec h; exact ⟨List.mem_cons_of_mem _ q1, q2⟩
theorem wantG_spec {ops : Array Oper} {o : Oper} {tm : TM} {a : Act} {b : Bool} {env : Nat → Nat} {m : Nat} (ht : ∀ t, (tm.get t).R env m (a.tmps.getD t undef)) (h : wantG ops.toList o tm = some b) : Region.wanted o (yielded ops a.tmps) = b := by
  unfold wantG at h
  unfold Region.wanted
  cases hg : o.guard with
  | none => rw [hg] at h; cases h; rfl
  | some p =>
    obtain ⟨j, want⟩ := p
    rw [hg] at h
    dsimp only at h ⊢
    rw [Array.getElem?_toList] at h
    cases hd : (ops[j]?).bind (·.dst) with
    | none => rw [hd] at h; cases h
    | some t =>
      rw [hd] at h
      dsimp only at h
      split at h
      · rename_i x hb
        cases h
        have hv := bool_val (.inl hb) (ht t)
        have hlt : t < a.tmps.size := by
          rcases Nat.lt_or_ge t a.tmps.size with h | h
          · exact h
          · simp [Array.getElem?_eq_none h, undef] at hv
        have hv' : a.tmps[t]? = some (.bool x) := by
          rw [Array.getElem?_eq_getElem hlt]
          congr 1
          simpa [hlt] using hv
        unfold yielded
        rw [hd]
        simp [hv']
      · split at h
        · rename_i l hl
          cases h
          have hv := ht t
          rw [hl] at hv
          obtain ⟨vs, hv, _⟩ := hv
          have hy0 := yielded_tuple (j := j) hd hv
          rw [hy0]; rfl
        · cases h
theorem splitG_spec {all : List Oper} {tm : TM} {t : Tmp} {x : Bool} : ∀ {l : List Nat}, splitG all tm l = some (t, x) → (tm.get t).bool = .s x
  | [], h => by cases h
  | i :: l, h => by
    unfold splitG at h
    split at h
    · split at h
      · split at h
        · rename_i hb
          cases h; exact hb
        · exact splitG_spec h
      · exact splitG_spec h
    · exact splitG_spec h
theorem withG_sat {B : Nat → Prop} {w0 w : World} {env : Nat → Nat} {all : List Oper} {l : List Nat} {tm : TM} {mem : Mem} {a : Act} {body : TM → Out} (h : (withG all l tm body).sat K) (hr : Rel C B w0 env tm mem a w) : ∃ tm', Rel C B w0 env tm' mem a w ∧ (body tm').sat K := by
  unfold withG at h
  split at h
  · rename_i t x ht
    have hv := bool_val (.inr (splitG_spec ht)) (hr.tmp t)
    cases x
    · exact ⟨tm.set t (.one (.lb false)), ⟨hr.size.trans (set_sz _ _ _).symm, lit_R (mem := ⟨_, Tr.leaf⟩) hr.tmp hv, by rw [set_df]; exact hr.defers, hr.mem⟩, h.2 rfl⟩
    · exact ⟨tm.set t (.one (.lb true)), ⟨hr.size.trans (set_sz _ _ _).symm, lit_R (mem := ⟨_, Tr.leaf⟩) hr.tmp hv, by rw [set_df]; exact hr.defers, hr.mem⟩, h.1 rfl⟩
  · exact ⟨tm, hr, h⟩
theorem pureFl_sound (hC : COk C) {B : Nat → Prop} {w0 w : World} {env : Nat → Nat} {tm : TM} {mem : Mem} {a : Act} {ops : Array Oper} {o : Oper} {ps : List Cnd} {v : AV} (hr : Rel C B w0 env tm mem a w) (h : pureFl C ops.toList o tm = some (ps, v)) (hp : allP ps) :
    ∃ val, v.R env mem.n val ∧ YieldsJ C.J ops o val a := by
  unfold pureFl at h
  split at h
  · rename_i hw
    cases h
    exact ⟨undef, ⟨[], rfl, trivial⟩, .inr ⟨wantG_spec hr.tmp hw, rfl⟩⟩
  · rename_i hw hfine
    have hg := wantG_spec hr.tmp hw
    suffices hs : (1 ≤ C.J.lvl → NS C.J.lvl C.P (execOp a.eval o)) ∧ ∃ val, v.R env mem.n val ∧ ∀ w, (execOp a.eval o).run C.P w = .ok (.value val) w by
      obtain ⟨h1, val, h2, h3⟩ := hs
      exact ⟨val, h2, .inl ⟨hg, h1, h3⟩⟩
    have ns : isCallV o = false → 1 ≤ C.J.lvl → NS C.J.lvl C.P (execOp a.eval o) := fun hc hl => opFine_ns hr hfine hc hl hC.lvl
    have det : v.det = true → (∀ w, ∃ val, (execOp a.eval o).run C.P w = .ok (.value val) w ∧ v.R env mem.n val) → ∃ val, v.R env mem.n val ∧ ∀ w, (execOp a.eval o).run C.P w = .ok (.value val) w := fun hd hw => by
      obtain ⟨val, q1, q2⟩ := hw w
      refine ⟨val, q2, fun w1 => ?_⟩
      obtain ⟨val1, p1, p2⟩ := hw w1
      rw [AV.R_conc q2 hd, ← AV.R_conc p2 hd]; exact p1
    split at h
    · rename_i x ho
      cases h
      exact ⟨ns (by unfold isCallV; rw [ho]), _, ev_R hr x, fun w => by unfold execOp; rw [ho]; rfl⟩
    · rename_i op t x y sp ho
      split at h
      · rename_i hb
        split at h
        · rename_i hd
          cases h
          refine ⟨ns (by unfold isCallV; rw [ho]), det hd fun w => ?_⟩
          obtain ⟨val, q1, q2⟩ := binA_sound (w := w) x y hb hp (ev_R hr x) (ev_R hr y)
          refine ⟨val, ?_, q2⟩
          unfold execOp
          rw [ho]
          simp only [Sem.run_bind] at q1 ⊢
          simp [q1]
        · cases h
      · cases h
    · rename_i t x f ho
      split at h
      · rename_i hb
        split at h
        · rename_i hd
          cases h
          refine ⟨ns (by unfold isCallV; rw [ho]), det hd fun w => ?_⟩
          obtain ⟨val, q1, q2⟩ := fieldAddrA_sound (P := C.P) (w := w) hb (ev_R hr x)
          refine ⟨val, ?_, q2⟩
          unfold execOp
          rw [ho]
          simp [q1]
        · cases h
      · cases h
    · cases h
  · cases h
def QFl {P : Program} (J : Judg P) (F : List Tmp) (Q : Exit → Act → World → Prop) : Exit → Act → World → Prop := fun e a w => ∀ w1, J.rel w w1 → match e with
  | .panic c => ∀ a', AgrF F a a' → Q (.panic c) a' w1
  | e => Q e a w1
theorem mem_dsts {ops : Array Oper} {i : Nat} {o : Oper} (h : ops[i]? = some o) : ∀ t, o.dst = some t → t ∈ dstsOf ops := fun t ht => by
  refine List.mem_filterMap.2 ⟨o, ?_, ht⟩
  exact Array.mem_def.1 (Array.mem_of_getElem? h)
theorem anyRun_sound (hC : COk C) {call : CallK} (hcall : CallOk C K call) {ops : Array Oper} (hsel : Region.noSelect ops = true) {B : Nat → Prop} {w0 : World} : ∀ (n : Nat) (listed : Array Bool) (tm : TM) (mem : Mem) (k : AE → TM → Mem → Out), (anyRun C call ops n listed tm mem k).sat K →
    ∀ (env : Nat → Nat) (a : Act) (w : World) (Q : Exit → Act → World → Prop), Rel C B w0 env tm mem a w →
      (∀ e tm' mem' env' a' w', (k e tm' mem').sat K → Rel C B w0 env' tm' mem' a' w' → Ext env mem.n env' mem'.n → Q e.conc a' w') → wpAnyJ C.J .any ops (QFl C.J (dstsOf ops) Q) n listed a w
  | 0, listed, tm, mem, k, h, env, a, w, Q, hr, hk => by
    simp only [anyRun] at h
    split at h
    · rename_i hn
      exact ⟨hn, fun w1 h1 => hk .normal tm mem env a w1 h (hr.rely h1) (Ext.refl _ _)⟩
    · exact h.elim
  | n + 1, listed, tm, mem, k, h, env, a, w, Q, hr, hk => by
    simp only [anyRun] at h
    split at h
    · rename_i hn
      exact ⟨fun _ w1 h1 => hk .normal tm mem env a w1 h (hr.rely h1) (Ext.refl _ _), fun i hi => by rw [hn] at hi; cases hi⟩
    · rename_i i0 l0 hl
      obtain ⟨tm, hr, h⟩ := withG_sat h hr
      split at h
      · rename_i i o ps v hpk
        obtain ⟨hi, ho, hfree, hpu⟩ := pickFl_spec hpk
        obtain ⟨hps, h⟩ := needs_sat h
        obtain ⟨val, hv, hy⟩ := pureFl_sound hC hr hpu hps
        rw [← hl] at hi
        refine wpAnyJ_first ho (Region.noSelect_spec hsel) (v := val) (fun c a w q w1 h1 a' ha => q w1 h1 a' (ha.of_put (mem_dsts ho))) (fun a w w1 h1 q w2 h2 => q w2 (C.J.trans _ _ _ h1 h2)) n listed a w (Region.free_spec ho hfree) hi hy ?_
        exact anyRun_sound hC hcall hsel n _ _ mem k h env _ w Q (hr.put hr.mem (Ext.refl _ _) hv) hk
      refine ⟨fun h0 => (by rw [hl] at h0; cases h0), fun i hi => ?_⟩
      have hlt : i < ops.size := by
        obtain ⟨_, o, ho, _⟩ := mem_ready.1 hi
        exact (Array.getElem?_eq_some_iff.1 ho).1
      rw [hl] at hi
      have h1 := bothAll_all h i hi
      have ho : (ops.toList.drop i).take 1 = [ops[i]] := by
        rw [List.drop_eq_getElem_cons (by simpa using hlt)]
        simp
      rw [ho] at h1
      let Q' : Exit → Act → World → Prop := fun e a w => match e with
        | .normal => wpAnyJ C.J .any ops (QFl C.J (dstsOf ops) Q) n (listed.setIfInBounds i true) a w
        | e => QFl C.J (dstsOf ops) Q e a w
      have hw : wpListJ C.J ops Q' [ops[i]] a w := runOps_sound hC hcall [ops[i]] tm mem _ h1 B w0 env a w Q' hr fun e tm' mem' env' a' w' q1 q2 q3 => by
        cases e with
        | normal => exact anyRun_sound hC hcall hsel n _ tm' mem' k q1 env' a' w' Q q2 fun e2 tm2 mem2 env2 a2 w2 p1 p2 p3 => hk e2 tm2 mem2 env2 a2 w2 p1 p2 (q3.trans p3)
        | exit id => exact fun w1 h1 => hk _ _ mem' env' a' w1 q1 ((q2.rely h1).clear (AgrF.refl _ _)) q3
        | goto l => exact fun w1 h1 => hk _ _ mem' env' a' w1 q1 ((q2.rely h1).clear (AgrF.refl _ _)) q3
        | ret => exact fun w1 h1 => hk _ _ mem' env' a' w1 q1 ((q2.rely h1).clear (AgrF.refl _ _)) q3
        | panic v => exact fun w1 h1 a2 ha => hk _ _ mem' env' a2 w1 q1 ((q2.rely h1).clear ha) q3
      unfold wpListJ at hw
      unfold wpOpJ
      simp only [Array.getElem?_eq_getElem hlt]
      split at hw
      · rename_i hwd
        rw [if_pos hwd]
        exact ⟨hw.1, fun w1 h1 => uponJ_Q (fun c a w q => q) (hw.2 w1 h1)⟩
      · rename_i hwd
        rw [if_neg hwd]
        exact hw
section
variable {P : Program} {J : Judg P} {md : Region.Mode} {ops : Array Oper}
theorem callEnd_conv {o : Oper} {a a' : Act} {M M' : Act → World → Prop} {Q Q' : Exit → Act → World → Prop} (h : ∀ v w, M (a.put o.dst v) w → M' (a'.put o.dst v) w) (hq : ∀ c w, Q (.panic c) a w → Q' (.panic c) a' w) : ∀ e w, callEnd o a M Q e w → callEnd o a' M' Q' e w := by
  intro e w he
  cases e with
  | returned v => exact h _ _ he
  | panicked c => exact hq _ _ he
  | outgrown => exact he
theorem uponJ_conv {o : Oper} {a a' : Act} {M M' : Act → World → Prop} {Q Q' : Exit → Act → World → Prop} (h : ∀ v w, M (a.put o.dst v) w → M' (a'.put o.dst v) w) (hd : ∀ d w, M ({ a with defers := d :: a.defers }.put o.dst undef) w → M' ({ a' with defers := d :: a'.defers }.put o.dst undef) w) (hq : ∀ c w, Q (.panic c) a w → Q' (.panic c) a' w)
    {r : Result Next} (hh : uponJ J o a M Q r) : uponJ J o a' M' Q' r := by
  cases r with
  | ok n w' =>
    cases n <;> first
      | exact h _ _ hh
      | exact hd _ _ hh
      | exact CallsJ.mono hh (callEnd_conv h hq)
      | exact RoundJ.mono hh (callEnd_conv h hq)
      | exact hh.elim
  | halt x w' => cases x <;> first | exact hq _ _ hh | exact hh.elim
def Lft (D0 D : List Deferred) (a0 a : Act) : Prop := a.tmps = a0.tmps ∧ ∃ ds, a0.defers = ds ++ D0 ∧ a.defers = ds ++ D
theorem Lft.put {D0 D : List Deferred} {a0 a : Act} (h : Lft D0 D a0 a) (d : Option Tmp) (v : Value) : Lft D0 D (a0.put d v) (a.put d v) := by
  obtain ⟨h1, ds, h2, h3⟩ := h
  cases d with
  | none => exact ⟨h1, ds, h2, h3⟩
  | some t => exact ⟨by simp only [Act.put]; rw [h1], ds, h2, h3⟩
theorem Lft.eval {D0 D : List Deferred} {a0 a : Act} (h : Lft D0 D a0 a) : a.eval = a0.eval := by
  funext x
  cases x <;> simp only [Act.eval, h.1]
def AgrT (F : List Tmp) (a a' : Act) : Prop := a'.tmps.size = a.tmps.size ∧ ∀ t, t ∉ F → a'.tmps.getD t undef = a.tmps.getD t undef
theorem AgrT.put {F : List Tmp} {a a' : Act} (h : AgrT F a a') {d : Option Tmp} (hd : ∀ t, d = some t → t ∈ F) (v : Value) : AgrT F a (a'.put d v) :=
  ⟨put_size.trans h.1, fun t ht => by rw [put_get (fun e => ht (hd t e))]; exact h.2 t ht⟩
theorem any_frame {D0 D : List Deferred} {a00 : Act} {Q : Exit → Act → World → Prop} : ∀ (fuel : Nat) (listed : Array Bool) (a0 a : Act) (w : World), Lft D0 D a0 a → AgrT (dstsOf ops) a00 a →
    wpAnyJ J md ops (fun e x w => ∀ y, Lft D0 D x y → AgrT (dstsOf ops) a00 y → Q e y w) fuel listed a0 w → wpAnyJ J md ops Q fuel listed a w
  | 0, listed, a0, a, w, hl, ha, h => ⟨h.1, h.2 a hl ha⟩
  | fuel + 1, listed, a0, a, w, hl, ha, h => ⟨fun h0 => h.1 h0 a hl ha, fun i hi => by
    have h := h.2 i hi
    unfold wpOpJ at h ⊢
    cases ho : ops[i]? with
    | none => rw [ho] at h; exact any_frame fuel _ a0 a w hl ha h
    | some o =>
      rw [ho] at h
      dsimp only at h ⊢
      rw [hl.1]
      have hdst := mem_dsts ho
      split at h
      · rename_i hw
        rw [if_pos hw]
        unfold opJ at h ⊢
        rw [hl.eval]
        refine ⟨h.1, fun w1 h1 => uponJ_conv (fun v w q => any_frame fuel _ _ _ w (hl.put o.dst v) (ha.put hdst v) q) (fun d w q => any_frame fuel _ _ _ w (Lft.put (a0 := { a0 with defers := d :: a0.defers }) (a := { a with defers := d :: a.defers }) ?_ o.dst undef) (AgrT.put (a' := { a with defers := d :: a.defers }) ha hdst undef) q) (fun c w q => q a hl ha) (h.2 w1 h1)⟩
        obtain ⟨h1, ds, h2, h3⟩ := hl
        exact ⟨h1, d :: ds, by show d :: a0.defers = _; rw [h2]; rfl, by show d :: a.defers = _; rw [h3]; rfl⟩
      · rename_i hw
        rw [if_neg hw]
        exact any_frame fuel _ _ _ w (hl.put o.dst undef) (ha.put hdst undef) h⟩
theorem wpAnyJ_mono {Q Q' : Exit → Act → World → Prop} (hq : ∀ e a w, Q e a w → Q' e a w) : ∀ (fuel : Nat) (listed : Array Bool) (a : Act) (w : World), wpAnyJ J md ops Q fuel listed a w → wpAnyJ J md ops Q' fuel listed a w
  | 0, _, _, _, h => ⟨h.1, hq _ _ _ h.2⟩
  | fuel + 1, listed, a, w, h => ⟨fun h0 => hq _ _ _ (h.1 h0), fun i hi => by
    have h := h.2 i hi
    unfold wpOpJ at h ⊢
    cases ho : ops[i]? with
    | none => rw [ho] at h; exact wpAnyJ_mono hq fuel _ a w h
    | some o =>
      rw [ho] at h
      dsimp only at h ⊢
      split at h
      · rename_i hw
        rw [if_pos hw]
        exact ⟨h.1, fun w1 h1 => uponJ_conv (fun v w q => wpAnyJ_mono hq fuel _ _ w q) (fun d w q => wpAnyJ_mono hq fuel _ _ w q) (fun c w q => hq _ _ _ q) (h.2 w1 h1)⟩
      · rename_i hw
        rw [if_neg hw]
        exact wpAnyJ_mono hq fuel _ _ w h⟩
end
theorem exec_ok (hC : COk C) : ∀ n, ExecOk C K n
  | 0 => fun task tm mem k h => by cases task <;> exact h.elim
  | n + 1 => by
    have ih := exec_ok hC n
    intro task tm mem k h B w0 env a w Q hr hk
    cases task with
    | again body =>
      simp only [exec] at h
      split at h
      · rename_i bd oq hq
        obtain ⟨rfl, h⟩ := h
        unfold roundQ at hq
        split at hq
        · rename_i bd' F hl
          split at hq
          · rename_i o' hF
            cases hq
            obtain ⟨id, hm⟩ : ∃ id, (id, body, F) ∈ C.lq := by
              unfold loopQ at hl
              split at hl
              · cases hl
              · split at hl
                · exact ⟨_, assoc_mem hl⟩
                · cases hl
            exact hC.lqs _ hm K k tm mem _ hF h B w0 env a w Q hr hk
          · cases hq
        · cases hq
      refine InLoopJ.round (ih (.run body) _ _ _ h B w0 env a w _ hr ?_)
      intro ae tm' mem' env' a' w' hk' hr' he
      cases ae with
      | normal => exact ih (.again body) _ _ _ hk' B w0 env' a' w' Q hr' (fun ae2 tm2 mem2 env2 a2 w2 q1 q2 q3 => hk ae2 tm2 mem2 env2 a2 w2 q1 q2 (he.trans q3))
      | exit id => exact hk _ _ _ _ _ _ hk' hr' he
      | goto l => exact hk _ _ _ _ _ _ hk' hr' he
      | ret => exact hk _ _ _ _ _ _ hk' hr' he
      | panic v => exact hk _ _ _ _ _ _ hk' hr' he
    | within rest body =>
      refine InScopeJ.go (ih (.run rest) _ _ _ h B w0 env a w _ hr ?_)
      intro ae tm' mem' env' a' w' hk' hr' he
      cases ae with
      | normal => exact hk _ _ _ _ _ _ hk' hr' he
      | exit id => exact hk _ _ _ _ _ _ hk' hr' he
      | ret => exact hk _ _ _ _ _ _ hk' hr' he
      | panic v => exact hk _ _ _ _ _ _ hk' hr' he
      | goto l =>
        dsimp only at hk'
        split at hk'
        · rename_i rest' hf
          exact ⟨rest', hf, ih (.within rest' body) _ _ _ hk' B w0 env' a' w' Q hr' (fun ae2 tm2 mem2 env2 a2 w2 q1 q2 q3 => hk ae2 tm2 mem2 env2 a2 w2 q1 q2 (he.trans q3))⟩
        · exact hk'.elim
    | run c =>
      cases c with
      | skip => exact wpJ_skip (hk .normal _ _ _ _ _ h hr (Ext.refl _ _))
      | label l => exact wpJ_label (hk .normal _ _ _ _ _ h hr (Ext.refl _ _))
      | exit id => exact wpJ_exit (hk (.exit id) _ _ _ _ _ h hr (Ext.refl _ _))
      | goto l => exact wpJ_goto (hk (.goto l) _ _ _ _ _ h hr (Ext.refl _ _))
      | ret => exact wpJ_ret (hk .ret _ _ _ _ _ h hr (Ext.refl _ _))
      | loop body =>
        simp only [exec] at h
        split at h
        · rename_i bd ps e tm' mem' hl
          obtain ⟨rfl, h⟩ := h
          obtain ⟨h1, h2⟩ := needs_sat h
          obtain ⟨id, F, hm, hF⟩ := loopC_spec hl
          exact hC.lps _ hm tm mem ps e tm' mem' hF.symm h1 B w0 env a w Q hr (fun env' a' w' hr' hx => hk e _ _ _ _ _ h2 hr' hx)
        · exact h.elim
        · exact wpJ_loop_in (ih (.again body) _ _ _ h B w0 env a w Q hr hk)
      | scope body => exact wpJ_scope_in (ih (.within body body) _ _ _ h B w0 env a w Q hr hk)
      | seq x y =>
        refine wpJ_seq (ih (.run x) _ _ _ h B w0 env a w _ hr ?_)
        intro ae tm' mem' env' a' w' hk' hr' he
        cases ae with
        | normal => exact ih (.run y) _ _ _ hk' B w0 env' a' w' Q hr' (fun ae2 tm2 mem2 env2 a2 w2 q1 q2 q3 => hk ae2 tm2 mem2 env2 a2 w2 q1 q2 (he.trans q3))
        | exit id => exact hk _ _ _ _ _ _ hk' hr' he
        | goto l => exact hk _ _ _ _ _ _ hk' hr' he
        | ret => exact hk _ _ _ _ _ _ hk' hr' he
        | panic v => exact hk _ _ _ _ _ _ hk' hr' he
      | block id body =>
        refine wpJ_block (ih (.run body) _ _ _ h B w0 env a w _ hr ?_)
        intro ae tm' mem' env' a' w' hk' hr' he
        cases ae with
        | normal => exact hk _ _ _ _ _ _ hk' hr' he
        | goto l => exact hk _ _ _ _ _ _ hk' hr' he
        | ret => exact hk _ _ _ _ _ _ hk' hr' he
        | panic v => exact hk _ _ _ _ _ _ hk' hr' he
        | exit id' =>
          dsimp only at hk'
          show Exit.inBlock id Q (.exit id') a' w'
          simp only [Exit.inBlock]
          split at hk'
          · rename_i hb
            rw [if_pos (Nat.eq_of_beq_eq_true hb)]
            exact hk .normal _ _ _ _ _ hk' hr' he
          · rename_i hb
            rw [if_neg (fun e => by rw [e] at hb; rw [Nat.beq_refl] at hb; cases hb)]
            exact hk (.exit id') _ _ _ _ _ hk' hr' he
      | cond c x y =>
        simp only [exec] at h
        have hev := ev_R hr c
        split at h
        · rename_i hc
          have hv := bool_val (.inl hc) hev
          exact wpJ_cond_true hv (ih (.run x) _ _ _ h B w0 env a w Q hr hk)
        · rename_i hc
          have hv := bool_val (.inl hc) hev
          exact wpJ_cond_false hv (ih (.run y) _ _ _ h B w0 env a w Q hr hk)
        · rename_i t hc
          have hv := bool_val (.inr hc) hev
          refine wpJ_cond hv ?_
          split at h
          · rename_i ps tm' mem' hmc
            obtain ⟨h1, h2⟩ := needs_sat h
            unfold mergeC at hmc
            split at hmc
            · split at hmc
              · rename_i ops _
                obtain ⟨q1, q2⟩ := merge_sound hC (Option.some.inj hmc) (allP_imp h1) hr (fun env' a' w' hr' hx => hk .normal _ _ _ _ _ h2 hr' hx)
                cases t with
                | true => exact q1 rfl
                | false => exact wpJ_skip (q2 rfl)
              · cases hmc
            · cases hmc
          · exact h.elim
          · cases t with
            | true => exact ih (.run x) _ _ _ (h.1 rfl) B w0 env a w Q hr hk
            | false => exact ih (.run y) _ _ _ (h.2 rfl) B w0 env a w Q hr hk
        · exact h.elim
      | region id ops draw =>
        cases draw with
        | false =>
          simp only [exec] at h
          obtain ⟨tm1, hr, h⟩ := splitAt_sat hr h
          exact wpJ_region_list (runOps_sound hC (callWith_ok hC ih) _ _ _ _ h B w0 env a w Q hr hk)
        | true =>
          simp only [exec] at h
          obtain ⟨tm1, hr, h⟩ := splitAt_sat hr h
          split at h
          · rename_i ops' oq hq
            obtain ⟨rfl, h⟩ := h
            unfold regQ at hq
            split at hq
            · cases hq
            · split at hq
              · rename_i ops2 F hA
                split at hq
                · rename_i o2 hF
                  cases hq
                  exact hC.rqs _ (assoc_mem hA) K k tm1 mem _ hF h B w0 env a w Q hr hk id
                · cases hq
              · cases hq
          split at h
          · obtain ⟨hcf, h⟩ := h
            split at h
            · rename_i s hs
              exact all_region hC hcf hs hr fun env' a' w' q1 q2 => hk .normal _ _ env' a' w' h q1 q2
            · exact h.elim
          split at h
          · split at h
            · rename_i pl hpl
              unfold partsAt at hpl
              split at hpl
              · rename_i hnb
                rw [Bool.and_eq_true] at hnb
                refine wpJ_mono (Q := fun e a w => (∀ c, e ≠ .panic c) ∧ Stb C.J Q e a w) (wpJ_region_any hC.mixed fun w1 h1 => parts_any hnb.1 (fun c a w q => q.1 c rfl) (fun a w w1 h1 q => ⟨q.1, fun w2 h2 => q.2 w2 (C.J.trans _ _ _ h1 h2)⟩) ?_) (fun e a w q => q.2 w (C.J.refl w))
                have := segRun_sound hC (callWith_ok hC ih) hnb.2 _ 0 pl hpl tm1 _ _ h env a { w1 with drawn := w1.drawn + 1 } (fun e a w => (∀ c, e ≠ .panic c) ∧ Stb C.J Q e a w) ⟨(hr.rely h1).size, (hr.rely h1).tmp, (hr.rely h1).defers, (hr.rely h1).mem.drew⟩ fun e tm2 mem2 env2 a2 w2 p1 p2 p3 => by
                  have hsat : (∀ c, e.conc ≠ .panic c) ∧ (k e tm2 mem2).sat K := by
                    cases e <;> first | exact p1.elim | exact ⟨fun c e => (by cases e), p1⟩
                  exact ⟨hsat.1, fun w3 h3 => hk e _ _ _ _ _ hsat.2 (p2.rely h3) p3⟩
                rw [firstsA_zero] at this
                exact this
              · cases hpl
            · exact h.elim
          split at h
          · split at h
            · rename_i hsel
              refine wpJ_mono (Q := QFl C.J (dstsOf ops) Q) (wpJ_region_any hC.mixed fun w1 h1 => anyRun_sound hC (callWith_ok hC ih) hsel _ _ _ _ _ h env a { w1 with drawn := w1.drawn + 1 } Q ⟨(hr.rely h1).size, (hr.rely h1).tmp, (hr.rely h1).defers, (hr.rely h1).mem.drew⟩ hk) fun e a w q => ?_
              cases e with
              | panic c => exact q w (C.J.refl w) a (AgrF.refl _ _)
              | _ => exact q w (C.J.refl w)
            · exact h.elim
          split at h
          · rename_i ops' hd fl hh
            refine wpJ_mono (Q := fun e a w => (fl = true → ∀ c, e ≠ .panic c) ∧ Stb C.J Q e a w) (open_headAt hC hh (Q := fun e a w => (fl = true → ∀ c, e ≠ .panic c) ∧ Stb C.J Q e a w) (fun hf c a w q => q.1 hf c rfl) (fun a w w1 h1 q => ⟨q.1, fun w2 h2 => q.2 w2 (C.J.trans _ _ _ h1 h2)⟩) hr h ?_) (fun e a w q => q.2 w (C.J.refl w))
            intro tm' mem' env' a' w' q1 q2 q3
            refine runOps_sound hC (callWith_ok hC ih) _ _ _ _ q1 B w0 env' a' w' _ q2 (fun e tm2 mem2 env2 a2 w2 p1 p2 p3 => ?_)
            have hsat : (fl = true → ∀ c, e.conc ≠ .panic c) ∧ (k e tm2 mem2).sat K := by
              cases fl with
              | false => exact ⟨(fun e => by cases e), p1⟩
              | true => cases e <;> first | exact p1.elim | exact ⟨fun _ c e => (by cases e), p1⟩
            exact ⟨hsat.1, fun w3 h3 => hk e _ _ _ _ _ hsat.2 (p2.rely h3) (q3.trans p3)⟩
          · exact h.elim
      | rangeFunc f params assign body =>
        simp only [exec] at h
        split at h
        · rename_i g caps hg
          exact range_sound hC ih hr hg h hk
        · exact h.elim
      | refuse why => exact h.elim
end
theorem callA_ends {C : Cfg} (hC : COk C) {tell : Bool} {n g : Nat} {fn : Func} (hfn : FnOk C.P g fn) {args : List AV} {mem : Mem} {K : AV → Mem → Prop} (h : (callA C tell n fn args mem).sat K)
    {B : Nat → Prop} {w0 w : World} {env : Nat → Nat} {vals : List Value} (hm : MR C B w0 env mem w) (ha : All2 (AV.R env mem.n) args vals) :
    CallsL C.J g vals.toArray w fun e w' => ∃ v, e = .returned v ∧ ∃ r mem' env', K r (keepMem tell mem') ∧ MR C B w0 env' mem' w' ∧ Ext env mem.n env' mem'.n ∧ r.R env' mem'.n v := by
  unfold callA at h
  split at h
  · rename_i c hb hlen
    refine (body_calls hC (exec_ok hC n) hfn hb (of_decide_eq_true hlen) h (S := fun v w' => ∃ r mem' env', K r (keepMem tell mem') ∧ MR C B w0 env' mem' w' ∧ Ext env mem.n env' mem'.n ∧ r.R env' mem'.n v) (Sp := fun _ _ => False) hm ha
      (fun r mem' env' v w' q1 q2 q3 q4 => ⟨r, mem', env', q1, q2, q3, q4⟩) (fun v mem' env' w' q _ _ => q)).mono fun e w' he => ?_
    rcases he with ⟨v, rfl, hs⟩ | ⟨v, _, hf⟩
    · exact ⟨v, rfl, hs⟩
    · exact hf.elim
  · exact h.elim
theorem callA_calls {C : Cfg} (hC : COk C) {tell : Bool} {n g : Nat} {fn : Func} (hfn : FnOk C.P g fn) {args : List AV} {mem : Mem} {K : AV → Mem → Prop} (h : (callA C tell n fn args mem).sat K)
    {B : Nat → Prop} {w0 w : World} {env : Nat → Nat} {vals : List Value} (hm : MR C B w0 env mem w) (ha : All2 (AV.R env mem.n) args vals) :
    CallsJ C.J g vals.toArray w fun e w' => ∃ v, e = .returned v ∧ ∃ r mem' env', K r (keepMem tell mem') ∧ MR C B w0 env' mem' w' ∧ Ext env mem.n env' mem'.n ∧ r.R env' mem'.n v := (callA_ends hC hfn h hm ha).calls
end Go.Ax

namespace Go.Ax
open Go Go.RowKit
def SV.flat : SV → Bool
  | .li .. => true
  | .si .. => true
  | .lb _ => true
  | .sb _ => true
  | _ => false
def TV.flat : TV → Bool
  | .one s => s.flat
  | .agg l => l.all SV.flat
def AV.flat : AV → Bool
  | .one s => s.flat
  | .agg l => l.all SV.flat
  | .tup l => l.all TV.flat
theorem SV.flat_R {env env' : Nat → Nat} {m m' : Nat} {s : SV} {v : Value} (hf : s.flat = true) (h : s.R env m v) : s.R env' m' v := by
  cases s <;> first | (cases hf; done) | exact h
theorem all2_flat {env env' : Nat → Nat} {m m' : Nat} : ∀ {l : List SV} {vs : List Value}, l.all SV.flat = true → All2 (SV.R env m) l vs → All2 (SV.R env' m') l vs
  | [], [], _, _ => trivial
  | s :: l, v :: vs, hf, h => by
    simp only [List.all_cons, Bool.and_eq_true] at hf
    exact ⟨SV.flat_R hf.1 h.1, all2_flat hf.2 h.2⟩
  | [], _ :: _, _, h => h.elim
  | _ :: _, [], _, h => h.elim
theorem TV.flat_R {env env' : Nat → Nat} {m m' : Nat} {s : TV} {v : Value} (hf : s.flat = true) (h : s.R env m v) : s.R env' m' v := by
  cases s with
  | one s => exact SV.flat_R hf h
  | agg l => obtain ⟨vs, h1, h2⟩ := h; exact ⟨vs, h1, all2_flat hf h2⟩
theorem all2_flatT {env env' : Nat → Nat} {m m' : Nat} : ∀ {l : List TV} {vs : List Value}, l.all TV.flat = true → All2 (TV.R env m) l vs → All2 (TV.R env' m') l vs
  | [], [], _, _ => trivial
  | s :: l, v :: vs, hf, h => by
    simp only [List.all_cons, Bool.and_eq_true] at hf
    exact ⟨TV.flat_R hf.1 h.1, all2_flatT hf.2 h.2⟩
  | [], _ :: _, _, h => h.elim
  | _ :: _, [], _, h => h.elim
theorem AV.flat_R {env env' : Nat → Nat} {m m' : Nat} {s : AV} {v : Value} (hf : s.flat = true) (h : s.R env m v) : s.R env' m' v := by
  cases s with
  | one s => exact SV.flat_R hf h
  | agg l => obtain ⟨vs, h1, h2⟩ := h; exact ⟨vs, h1, all2_flat hf h2⟩
  | tup l => obtain ⟨vs, h1, h2⟩ := h; exact ⟨vs, h1, all2_flatT hf h2⟩
theorem all2_flatA {env env' : Nat → Nat} {m m' : Nat} : ∀ {l : List AV} {vs : List Value}, l.all AV.flat = true → All2 (AV.R env m) l vs → All2 (AV.R env' m') l vs
  | [], [], _, _ => trivial
  | s :: l, v :: vs, hf, h => by
    simp only [List.all_cons, Bool.and_eq_true] at hf
    exact ⟨AV.flat_R hf.1 h.1, all2_flatA hf.2 h.2⟩
  | [], _ :: _, _, h => h.elim
  | _ :: _, [], _, h => h.elim
def envG (gd : List (Nat × List SV)) (i : Nat) : Nat := ((gd[i]?).map (·.1)).getD 0
theorem ofList_get {α : Type} : ∀ (l : List α) (t : Tr α) (i j : Nat) (x : α), (Tr.ofList t i l).get j = some x → t.get j = some x ∨ (i ≤ j ∧ l[j - i]? = some x)
  | [], t, i, j, x, h => .inl h
  | y :: l, t, i, j, x, h => by
    rcases ofList_get l (t.set i y) (i + 1) j x h with h' | ⟨h1, h2⟩
    · by_cases hij : i = j
      · subst hij
        have := Tr.get_set_eq _ _ _ _ h'
        subst this
        exact .inr ⟨Nat.le_refl _, by simp⟩
      · rw [Tr.get_set_ne _ _ _ _ hij] at h'
        exact .inl h'
    · refine .inr ⟨by omega, ?_⟩
      have : j - i = (j - (i + 1)) + 1 := by omega
      rw [this]
      simpa using h2
theorem mem_glFrom {gd : List (Nat × List SV)} : ∀ {i : Nat} {p : Nat × Nat}, p ∈ glFrom i gd → ∃ j, p.2 = i + j ∧ ∃ q, gd[j]? = some q ∧ q.1 = p.1 := by
  induction gd with
  | nil => intro i p h; cases h
  | cons q gd ih =>
    intro i p h
    rcases List.mem_cons.1 h with rfl | h
    · exact ⟨0, rfl, q, rfl, rfl⟩
    · obtain ⟨j, h1, r, h2, h3⟩ := ih h
      exact ⟨j + 1, by omega, r, by simpa using h2, h3⟩
theorem MR.start {C : Cfg} {B : Nat → Prop} {w : World} (hgl : C.gl = glFrom 0 C.gd) (h : GDp C.gd B w) (hB : ∀ b, B b → b < w.heap.size) : MR C (· < w.heap.size) w (envG C.gd) (memG C.gd) w where
  below := Keep.refl _ _
  base := fun _ hb => hb
  lt := fun i ab hi => by
    rcases ofList_get _ _ _ _ _ hi with h | ⟨_, h⟩
    · rw [Tr.get_mk] at h; cases h
    · have := (List.getElem?_eq_some_iff.1 h).1
      simpa [memG] using this
  blk := fun i ab hi => by
    rcases ofList_get _ _ _ _ _ hi with h' | ⟨_, h'⟩
    · rw [Tr.get_mk] at h'; cases h'
    · simp only [Nat.sub_zero, List.getElem?_map] at h'
      obtain ⟨p, hp, rfl⟩ := Option.map_eq_some_iff.1 h'
      obtain ⟨h1, vs, rest, t, fr, h2, h3⟩ := h p (List.mem_of_getElem? hp)
      have he : envG C.gd i = p.1 := by simp [envG, hp]
      rw [he]
      exact ⟨vs, rest, t, fr, h2, h3.imp fun _ _ => SV.R_ext ⟨Nat.zero_le _, fun _ hi => absurd hi (Nat.not_lt_zero _)⟩, hB _ h1⟩
  sep := fun i j a b hi _ _ ha _ => by
    rcases ofList_get _ _ _ _ _ hi with h' | ⟨_, h'⟩
    · rw [Tr.get_mk] at h'; cases h'
    · simp only [Nat.sub_zero, List.getElem?_map] at h'
      obtain ⟨p, hp, rfl⟩ := Option.map_eq_some_iff.1 h'
      cases ha
  gl := fun p hp => by
    rw [hgl] at hp
    obtain ⟨j, h1, q, h2, h3⟩ := mem_glFrom hp
    have hj : p.2 = j := by omega
    rw [hj]
    refine ⟨by simp [envG, h2, h3], ?_⟩
    simpa [memG] using (List.getElem?_eq_some_iff.1 h2).1
  gd := fun p hp => by
    obtain ⟨h1, h2⟩ := h p hp
    exact ⟨hB _ h1, h2⟩
theorem psok_of {C : Cfg} (hC : COk C) (hgl : C.gl = glFrom 0 C.gd) {g : Nat} {fn : Func} (hfn : FnOk C.P g fn) (hb : fn.body.isSome = true) {F : List AV → Mem → Option (List Cnd × AV)}
    (Hf : ∀ args mem r conds, F args mem = some (conds, r) → args.all AV.flat = true ∧ r.flat = true)
    (H : ∀ args mem r conds, F args mem = some (conds, r) → allP conds → ∀ vals, All2 (AV.R (fun _ => 0) 0) args vals → ∃ args' n, All2 (AV.R (fun _ => 0) 0) args' vals ∧ args'.all AV.flat = true ∧
      (callA C false n fn args' (memG C.gd)).sat fun v _ => v.flat = true ∧ ∀ val, v.R (fun _ => 0) 0 val → r.R (fun _ => 0) 0 val) : PSOk C g F := by
  refine ⟨⟨fn, hfn, hb⟩, fun args mem r conds hF hp B w0 w env vals hm ha => ?_⟩
  obtain ⟨hflat, hr⟩ := Hf args mem r conds hF
  obtain ⟨args', n, ha', hfa', hrun⟩ := H args mem r conds hF hp vals (all2_flatA hflat ha)
  have hs := MR.start (C := C) hgl hm.gd hm.base
  refine (callA_calls hC hfn hrun hs (all2_flatA hfa' ha')).mono ?_
  rintro e w' ⟨v, he, r', mem', env', ⟨hf', hK⟩, hm', hx, hR⟩
  exact ⟨⟨v, he, AV.flat_R hr (hK v (AV.flat_R hf' hR))⟩, hm'.below.below⟩
def Cfg.sig (C : Cfg) : (P : Program) × Judg P := ⟨C.P, C.J⟩
theorem sig_P {C C' : Cfg} (h : C'.sig = C.sig) : C'.P = C.P := congrArg Sigma.fst h
theorem sig_calls {C C' : Cfg} (h : C'.sig = C.sig) {g : Nat} {a : Array Value} {w : World} {R : Ending → World → Prop} (hc : CallsJ C.J g a w R) : CallsJ C'.J g a w R := by
  have key : ∀ s s' : (P : Program) × Judg P, s' = s → CallsJ s.2 g a w R → CallsJ s'.2 g a w R := by rintro s s' rfl h; exact h
  exact key C.sig C'.sig h hc
theorem sig_wp {C C' : Cfg} (h : C'.sig = C.sig) {c : Code} {a : Act} {w : World} {Q : Exit → Act → World → Prop} (hc : wpJ C.J c Q a w) : wpJ C'.J c Q a w := by
  have key : ∀ s s' : (P : Program) × Judg P, s' = s → wpJ s.2 c Q a w → wpJ s'.2 c Q a w := by rintro s s' rfl h; exact h
  exact key C.sig C'.sig h hc
theorem sig_loop {C C' : Cfg} (h : C'.sig = C.sig) {c : Code} {a : Act} {w : World} {Q : Exit → Act → World → Prop} (hc : InLoopJ C.J c Q a w) : InLoopJ C'.J c Q a w := by
  have key : ∀ s s' : (P : Program) × Judg P, s' = s → InLoopJ s.2 c Q a w → InLoopJ s'.2 c Q a w := by rintro s s' rfl h; exact h
  exact key C.sig C'.sig h hc
theorem MR.fewer {C C' : Cfg} {B : Nat → Prop} {w0 w : World} {env : Nat → Nat} {mem : Mem} (hgd : ∀ p ∈ C.gd, p ∈ C'.gd) (h : MR C'.bare B w0 env mem w) : MR C.bare B w0 env mem w :=
  ⟨h.below, h.base, h.lt, h.blk, h.sep, (fun p hp => by cases hp), fun p hp => h.gd p (hgd p hp)⟩
theorem PSOk.widen {C C' : Cfg} {g : Nat} {F : List AV → Mem → Option (List Cnd × AV)} (h : PSOk C g F) (hP : C'.sig = C.sig) (hgd : ∀ p ∈ C.gd, p ∈ C'.gd) : PSOk C' g F := by
  obtain ⟨h1, h2⟩ := h
  exact ⟨by rw [sig_P hP]; exact h1, fun args mem r conds hF hp B w0 w env vals hm ha => sig_calls hP (h2 args mem r conds hF hp B w0 w env vals (hm.fewer hgd) ha)⟩
theorem FOk.widen {C C' : Cfg} {g : Nat} {F : List AV → Mem → Option (List Cnd × RT)} (h : FOk C g F) (hP : C'.sig = C.sig) (hgd : ∀ p ∈ C.gd, p ∈ C'.gd) : FOk C' g F := by
  obtain ⟨h1, h2⟩ := h
  exact ⟨by rw [sig_P hP]; exact h1, fun args mem r conds hF hp B w0 w env vals hm ha => sig_calls hP (h2 args mem r conds hF hp B w0 w env vals (hm.fewer hgd) ha)⟩
theorem PSOk.cast {C C' : Cfg} {g : Nat} {F : List AV → Mem → Option (List Cnd × AV)} (h : PSOk C g F) (hP : C'.sig = C.sig) (_ : C'.gl = C.gl) (hgd : C'.gd = C.gd) : PSOk C' g F := h.widen hP (by rw [hgd]; exact fun _ h => h)
inductive Sh where
  | w (k : IntKind)
  | l (k : IntKind) (n : Nat)
  | b
def Sh.len : Sh → Nat
  | .w _ => 1
  | .l _ n => n
  | .b => 1
def Sh.kind : Sh → IntKind
  | .w k => k
  | .l k _ => k
  | .b => .u8
def parse1 (sh : Sh) (x : AV) : Option (Bool × List Int) :=
  match sh, x with
  | .w k, .one (.li k' n) => match kEq k k' with | true => some (true, [n]) | false => none
  | .w k, .one (.si k' n) => match kEq k k' with | true => some (false, [n]) | false => none
  | .l k n, .agg l => match intsOf k l with
    | some es => match Nat.beq es.length n with | true => some (false, es) | false => none
    | none => none
  | .b, .one (.lb c) => some (true, [iteI c 1 0])
  | .b, .one (.sb c) => some (false, [iteI c 1 0])
  | _, _ => none
def parse : List Sh → List AV → Option (Bool × List (List Int))
  | [], [] => some (true, [])
  | sh :: shs, x :: xs => match parse1 sh x, parse shs xs with
    | some (b, es), some (b', ess) => some (b && b', es :: ess)
    | _, _ => none
  | _, _ => none
def mkArg (sh : Sh) (es : List Int) : AV :=
  match sh with
  | .w k => .one (.si k (es.getD 0 0))
  | .l k _ => .agg (es.map (.si k))
  | .b => .one (.sb (es.getD 0 0 != 0))
def mkArgs : List Sh → List (List Int) → List AV
  | sh :: shs, es :: ess => mkArg sh es :: mkArgs shs ess
  | _, _ => []
inductive GP where
  | w (k : IntKind) (e : Int)
  | b (x : Bool)
  | l (k : IntKind) (es : List Int)
inductive GR where
  | p (x : GP)
  | t (l : List GP)
def GP.mk (lit : Bool) : GP → AV
  | .w k e => match lit with | true => .one (.li k e) | false => .one (.si k e)
  | .b x => match lit with | true => .one (.lb x) | false => .one (.sb x)
  | .l k es => .agg (es.map (.si k))
def GP.mkT (lit : Bool) : GP → TV
  | .w k e => match lit with | true => .one (.li k e) | false => .one (.si k e)
  | .b x => match lit with | true => .one (.lb x) | false => .one (.sb x)
  | .l k es => .agg (es.map (.si k))
def GR.mk (lit : Bool) : GR → AV
  | .p x => x.mk lit
  | .t l => .tup (l.map (GP.mkT lit))
def gsum (shs : List Sh) (conds : List (List Int) → List Cnd) (T : List (List Int) → GR) : List AV → Mem → Option (List Cnd × AV) := fun args _ =>
  match parse shs args with
  | some (lit, ess) => some (conds ess, (T ess).mk lit)
  | none => none
def tab (n : Nat) (f : Nat → Int) : List Int := (List.range n).map f
def tabs : List Sh → Nat → (Nat → Nat → Int) → List (List Int)
  | [], _, _ => []
  | sh :: shs, i, fs => tab sh.len (fs i) :: tabs shs (i + 1) fs
def okL (sh : Sh) (es : List Int) : Prop := es.length = sh.len ∧ ∀ e ∈ es, okI sh.kind e
def okLs : List Sh → List (List Int) → Prop
  | [], [] => True
  | sh :: shs, es :: ess => okL sh es ∧ okLs shs ess
  | _, _ => False
theorem intsOf_flat {k : IntKind} : ∀ {l : List SV} {es : List Int}, intsOf k l = some es → l.all SV.flat = true
  | [], _, _ => rfl
  | s :: l, es, h => by
    cases s with
    | li k' n =>
      simp only [intsOf] at h
      split at h
      · rename_i es' hk he; simp [SV.flat, intsOf_flat he]
      · cases h
    | si k' n =>
      simp only [intsOf] at h
      split at h
      · rename_i es' hk he; simp [SV.flat, intsOf_flat he]
      · cases h
    | _ => simp [intsOf] at h
theorem okb (c : Bool) : okL .b [iteI c 1 0] := ⟨rfl, fun e he => by rw [List.mem_singleton.1 he]; cases c <;> decide⟩
theorem parse1_spec {sh : Sh} {x : AV} {b : Bool} {es : List Int} (h : parse1 sh x = some (b, es)) : x.flat = true ∧ ∀ v, x.R (fun _ => 0) 0 v → (mkArg sh es).R (fun _ => 0) 0 v ∧ okL sh es := by
  unfold parse1 at h
  split at h
  · rename_i k k' n
    split at h
    · rename_i hk
      have := kEq_of hk; subst this
      cases h
      exact ⟨rfl, fun v hv => ⟨hv, rfl, fun e he => by rw [List.mem_singleton.1 he]; exact hv.1⟩⟩
    · cases h
  · rename_i k k' n
    split at h
    · rename_i hk
      have := kEq_of hk; subst this
      cases h
      exact ⟨rfl, fun v hv => ⟨hv, rfl, fun e he => by rw [List.mem_singleton.1 he]; exact hv.1⟩⟩
    · cases h
  · rename_i k n l
    split at h
    · rename_i es' he
      split at h
      · rename_i hn
        cases h
        refine ⟨intsOf_flat he, fun v hv => ?_⟩
        obtain ⟨vs, rfl, hl⟩ := hv
        obtain ⟨h1, h2⟩ := intsOf_R he hl
        refine ⟨⟨vs, rfl, ?_⟩, Nat.eq_of_beq_eq_true hn, h2⟩
        rw [h1]
        exact All2.both _ _ es fun e he => ⟨h2 e he, rfl⟩
      · cases h
    · cases h
  · rename_i c
    cases h
    exact ⟨rfl, fun v hv => ⟨by cases c <;> exact hv, okb c⟩⟩
  · rename_i c
    cases h
    exact ⟨rfl, fun v hv => ⟨by cases c <;> exact hv, okb c⟩⟩
  · cases h
theorem parse_spec : ∀ {shs : List Sh} {args : List AV} {b : Bool} {ess : List (List Int)}, parse shs args = some (b, ess) →
    args.all AV.flat = true ∧ ∀ vals, All2 (AV.R (fun _ => 0) 0) args vals → All2 (AV.R (fun _ => 0) 0) (mkArgs shs ess) vals ∧ okLs shs ess
  | [], [], b, ess, h => by cases h; exact ⟨rfl, fun vals hv => ⟨hv, trivial⟩⟩
  | sh :: shs, x :: xs, b, ess, h => by
    simp only [parse] at h
    split at h
    · rename_i b1 es b2 ess' h1 h2
      cases h
      obtain ⟨p1, p2⟩ := parse1_spec h1
      obtain ⟨q1, q2⟩ := parse_spec h2
      refine ⟨by simp [p1, q1], fun vals hv => ?_⟩
      cases vals with
      | nil => exact hv.elim
      | cons v vals =>
        obtain ⟨r1, r2⟩ := p2 v hv.1
        obtain ⟨s1, s2⟩ := q2 vals hv.2
        exact ⟨⟨r1, s1⟩, r2, s2⟩
    · cases h
  | [], _ :: _, _, _, h => by cases h
  | _ :: _, [], _, _, h => by cases h
theorem mk_flat_agg (k : IntKind) (es : List Int) : (es.map (SV.si k)).all SV.flat = true := by
  induction es with
  | nil => rfl
  | cons e es ih => simp [SV.flat, ih]
theorem GP.mk_flat (lit : Bool) (x : GP) : (x.mk lit).flat = true := by
  cases x with
  | w k e => cases lit <;> rfl
  | b x => cases lit <;> rfl
  | l k es => exact mk_flat_agg k es
theorem GP.mkT_flat (lit : Bool) (x : GP) : (x.mkT lit).flat = true := by
  cases x with
  | w k e => cases lit <;> rfl
  | b x => cases lit <;> rfl
  | l k es => exact mk_flat_agg k es
theorem GR.mk_flat (lit : Bool) (x : GR) : (x.mk lit).flat = true := by
  cases x with
  | p x => exact x.mk_flat lit
  | t l =>
    show (l.map (GP.mkT lit)).all TV.flat = true
    induction l with
    | nil => rfl
    | cons x l ih => simp [GP.mkT_flat, ih]
theorem GP.mk_R {lit : Bool} {x : GP} {v : Value} (h : (x.mk false).R (fun _ => 0) 0 v) : (x.mk lit).R (fun _ => 0) 0 v := by
  cases x with
  | w k e => cases lit <;> exact h
  | b x => cases lit <;> exact h
  | l k es => exact h
theorem GP.mkT_R {lit : Bool} {x : GP} {v : Value} (h : (x.mkT false).R (fun _ => 0) 0 v) : (x.mkT lit).R (fun _ => 0) 0 v := by
  cases x with
  | w k e => cases lit <;> exact h
  | b x => cases lit <;> exact h
  | l k es => exact h
theorem GR.mk_R {lit : Bool} {x : GR} {v : Value} (h : (x.mk false).R (fun _ => 0) 0 v) : (x.mk lit).R (fun _ => 0) 0 v := by
  cases x with
  | p x => exact GP.mk_R h
  | t l =>
    obtain ⟨vs, hv, hl⟩ := h
    refine ⟨vs, hv, ?_⟩
    clear hv
    induction l generalizing vs with
    | nil => exact hl
    | cons x l ih =>
      cases vs with
      | nil => exact hl.elim
      | cons v vs => exact ⟨GP.mkT_R hl.1, ih vs hl.2⟩
theorem tab_self {n : Nat} {es : List Int} (h : es.length = n) : tab n (fun i => es.getD i 0) = es := by
  subst h
  apply List.ext_getElem
  · simp [tab]
  · intro i h1 h2
    simp [tab, h2]
theorem tabs_self : ∀ {shs : List Sh} {ess : List (List Int)} (i : Nat) (fs : Nat → Nat → Int), okLs shs ess → (∀ j es, ess[j]? = some es → fs (i + j) = fun m => es.getD m 0) → tabs shs i fs = ess
  | [], [], _, _, _, _ => rfl
  | sh :: shs, es :: ess, i, fs, h, hf => by
    have h0 := hf 0 es rfl
    simp only [Nat.add_zero] at h0
    rw [tabs, h0, tab_self h.1.1, tabs_self (i + 1) fs h.2 fun j es' hj => by rw [← hf (j + 1) es' (by simpa using hj)]; congr 1; omega]
  | [], _ :: _, _, _, h, _ => h.elim
  | _ :: _, [], _, _, h, _ => h.elim
theorem mkArgs_flat : ∀ (shs : List Sh) (ess : List (List Int)), (mkArgs shs ess).all AV.flat = true
  | [], _ => rfl
  | _ :: _, [] => rfl
  | sh :: shs, es :: ess => by
    simp only [mkArgs, List.all_cons, Bool.and_eq_true]
    refine ⟨?_, mkArgs_flat shs ess⟩
    cases sh with
    | w k => rfl
    | l k n => exact mk_flat_agg k es
    | b => rfl
theorem psok_g {C : Cfg} (hC : COk C) (hgl : C.gl = glFrom 0 C.gd) {g : Nat} {fn : Func} (hfn : FnOk C.P g fn) (hb : fn.body.isSome = true) {shs : List Sh} {conds : List (List Int) → List Cnd} {T : List (List Int) → GR} (n : Nat)
    (H : ∀ fs : Nat → Nat → Int, okLs shs (tabs shs 0 fs) → allP (conds (tabs shs 0 fs)) → (callA C false n fn (mkArgs shs (tabs shs 0 fs)) (memG C.gd)).sat fun v _ => v.flat = true ∧ ∀ val, v.R (fun _ => 0) 0 val → ((T (tabs shs 0 fs)).mk false).R (fun _ => 0) 0 val) :
    PSOk C g (gsum shs conds T) := by
  refine psok_of hC hgl hfn hb (fun args mem r cs hF => ?_) (fun args mem r cs hF hp vals ha => ?_)
  · unfold gsum at hF
    split at hF
    · rename_i lit ess hpa
      cases hF
      exact ⟨(parse_spec hpa).1, GR.mk_flat _ _⟩
    · cases hF
  · unfold gsum at hF
    split at hF
    · rename_i lit ess hpa
      cases hF
      obtain ⟨h1, h2⟩ := (parse_spec hpa).2 vals ha
      have ht := tabs_self 0 (fun j m => (ess.getD j []).getD m 0) h2 (fun j es hj => by funext m; simp [hj])
      have := H (fun j m => (ess.getD j []).getD m 0)
      rw [ht] at this
      refine ⟨mkArgs shs ess, n, h1, mkArgs_flat _ _, ?_⟩
      have h3 := this h2 hp
      have mono : ∀ {K K' : AV → Mem → Prop} (o : Out), (∀ v m, K v m → K' v m) → o.sat K → o.sat K' := by
        intro K K' o hk
        induction o with
        | bad _ => exact id
        | need p o ih => exact fun h => ⟨h.1, ih h.2⟩
        | br c t f iht ihf => exact fun h => ⟨fun e => iht (h.1 e), fun e => ihf (h.2 e)⟩
        | both a b iha ihb => exact fun h => ⟨iha h.1, ihb h.2⟩
        | done v m => exact hk v m
      exact mono _ (fun v _ ⟨q1, q2⟩ => ⟨q1, fun val hv => GR.mk_R (q2 val hv)⟩) h3
    · cases hF
theorem psok_e {C : Cfg} (hC : COk C) {G : List (Nat × List SV)} (hG : C.gd = G) (hgl : C.gl = glFrom 0 G) {g : Nat} {fn : Func} (hfn : FnOk C.P g fn) (hb : fn.body.isSome = true) {shs : List Sh} {conds : List (List Int) → List Cnd} {T : List (List Int) → GR} (n : Nat)
    (args : (Nat → Nat → Int) → List AV) (ha : ∀ fs, mkArgs shs (tabs shs 0 fs) = args fs)
    (H : ∀ fs : Nat → Nat → Int, okLs shs (tabs shs 0 fs) → allP (conds (tabs shs 0 fs)) → ∃ o, callA C false n fn (args fs) (memG G) = o ∧ o.sat fun v _ => v.flat = true ∧ ∀ val, v.R (fun _ => 0) 0 val → ((T (tabs shs 0 fs)).mk false).R (fun _ => 0) 0 val) :
    PSOk C g (gsum shs conds T) := by
  subst hG
  refine psok_g hC hgl hfn hb n fun fs h1 h2 => ?_
  obtain ⟨o, ho, hs⟩ := H fs h1 h2
  rw [ha fs, ho]
  exact hs
theorem sat_same {x : GR} {v : AV} (h : v = x.mk false) : v.flat = true ∧ ∀ val, v.R (fun _ => 0) 0 val → (x.mk false).R (fun _ => 0) 0 val := by subst h; exact ⟨GR.mk_flat _ _, fun _ h => h⟩
def SV.sym : SV → SV
  | .li k n => .si k n
  | .lb b => .sb b
  | s => s
def TV.sym : TV → TV
  | .one s => .one s.sym
  | .agg l => .agg (l.map SV.sym)
def AV.sym : AV → AV
  | .one s => .one s.sym
  | .agg l => .agg (l.map SV.sym)
  | .tup l => .tup (l.map TV.sym)
theorem SV.sym_R {env : Nat → Nat} {m : Nat} {s : SV} {v : Value} (h : s.R env m v) : s.sym.R env m v := by cases s <;> exact h
theorem all2_sym {α : Type} {f : α → α} {R : α → Value → Prop} (hf : ∀ a v, R a v → R (f a) v) : ∀ {l : List α} {vs : List Value}, All2 R l vs → All2 R (l.map f) vs
  | [], [], _ => trivial
  | _ :: _, _ :: _, h => ⟨hf _ _ h.1, all2_sym hf h.2⟩
  | [], _ :: _, h => h.elim
  | _ :: _, [], h => h.elim
theorem TV.sym_R {env : Nat → Nat} {m : Nat} {s : TV} {v : Value} (h : s.R env m v) : s.sym.R env m v := by
  cases s with
  | one s => exact SV.sym_R h
  | agg l => obtain ⟨vs, h1, h2⟩ := h; exact ⟨vs, h1, all2_sym (fun _ _ => SV.sym_R) h2⟩
theorem AV.sym_R {env : Nat → Nat} {m : Nat} {s : AV} {v : Value} (h : s.R env m v) : s.sym.R env m v := by
  cases s with
  | one s => exact SV.sym_R h
  | agg l => obtain ⟨vs, h1, h2⟩ := h; exact ⟨vs, h1, all2_sym (fun _ _ => SV.sym_R) h2⟩
  | tup l => obtain ⟨vs, h1, h2⟩ := h; exact ⟨vs, h1, all2_sym (fun _ _ => TV.sym_R) h2⟩
theorem sat_sym {x : GR} {v : AV} (h : v.sym = x.mk false) (hf : v.flat = true) : v.flat = true ∧ ∀ val, v.R (fun _ => 0) 0 val → (x.mk false).R (fun _ => 0) 0 val := ⟨hf, fun _ hv => h ▸ AV.sym_R hv⟩
def behind (mem : Mem) (k : IntKind) (n : Nat) (x : AV) : Option (List Int) :=
  match x with
  | .one (.ptr b o) => match Nat.beq o 0, (mem.get b).bind AB.get? with
    | true, some l => match intsOf k l with
      | some es => match Nat.beq es.length n with | true => some es | false => none
      | none => none
    | _, _ => none
  | _ => none
end Go.Ax

namespace Go.Ax
open Go Go.RowKit
def loneJ (P : Program) : Judg P where
  main := true
  lvl := 0
  rel := Eq
  closed S := ∀ fr cs w fr' cs' w', step P (lone fr cs w) = .next (lone fr' cs' w') → S fr' cs' w' → S fr cs w
  refl _ := rfl
  trans _ _ _ := Eq.trans
  drawn a b h := ⟨a.drawn, by subst h; rfl⟩
  world S fr cs w w1 _ h hs := h ▸ hs
  move0 S fr cs fr' cs' w hS h hn := hS _ _ _ _ _ _ (step_lone_go (by
    have := h w
    simp only [gor] at this
    rw [this]; rfl)) hn
  sem S fr cs w α s ok f hS hns hst hun hstep h := by
    obtain ⟨hok, hn⟩ := h w rfl
    obtain ⟨es, he, _⟩ := hstep w hok
    refine hS _ _ _ _ _ _ (step_lone_go ?_) hn
    simp only [gor] at he
    rw [he]; rfl
theorem CallsL.alone {P : Program} {f : FuncId} {args : Array Value} {w : World} {R : Ending → World → Prop} (h : CallsL (loneJ P) f args w R) : Calls P f args w R := by
  intro cs
  let S : SetS := fun fr cs' w' => ∃ e w2 fr2, R e w2 ∧ Steps P (lone fr cs' w') (lone fr2 cs w2) ∧ fr2.fn = f ∧ fr2.leaving P w2 e ∧ e ≠ .outgrown
  have hS : (loneJ P).closed S := fun fr cs' w' fr' cs'' w'' hs ⟨e, w2, fr2, h1, h2, h3⟩ => ⟨e, w2, fr2, h1, .head hs h2, h3⟩
  obtain ⟨e, w2, fr2, h1, h2, h3, h4, h5⟩ := h cs S hS fun fr w' hE => by
    obtain ⟨hff, hk, hd, fn, hf, hE⟩ := hE
    rcases hE with ⟨hm, hE⟩ | ⟨v, hm, hE⟩
    · obtain ⟨v, hv, hr⟩ := hE w' rfl
      exact ⟨.returned v, w', fr, hr, Steps.refl _ _, hff, ⟨hm, hd, hk, fn, by rw [hff]; exact hf, hv⟩, by simp⟩
    · exact ⟨.panicked _, w', fr, hE, Steps.refl _ _, hff, ⟨hm, hd, fn, by rw [hff]; exact hf⟩, by simp⟩
  refine ⟨e, w2, fr2, h1, ?_, h3, h4⟩
  cases e with
  | returned v => exact h2
  | panicked ch => exact h2
  | outgrown => exact absurd rfl h5
end Go.Ax

namespace Go.Ax
open Go Go.RowKit Go.ChangeShapes Go.WideShapes Go.ChangeAt
theorem trodAll_below {H : Type} {enc : TypeId × Value → H} {P : Program} (hl : laidOutB P = true) {W W' : World} (hb : Below W.heap.size W W') :
    ∀ {ts : List TypeId} {vs : List Value} {ds : List (DataW H)} {ps : List MemPlace}, (ts.all fun t => P.readableRec t && decide (t < P.types.size)) = true →
      DataW.TrodAll enc P W 0 (fun _ => true) true ts vs ds ps → (∀ x ∈ ps, x.block < W.heap.size) → DataW.TrodAll enc P W' 0 (fun b => decide (b < W.heap.size)) true ts vs ds ps
  | [], [], [], _, _, h, _ => h
  | t :: ts, v :: vs, d :: ds, ps, hr, h, hlt => by
    simp only [List.all_cons, Bool.and_eq_true, decide_eq_true_eq] at hr
    obtain ⟨p, q, h1, h2, rfl⟩ := h
    exact ⟨p, q, Below.trod hl hr.1.1 hr.1.2 h1 hb (fun x hx => hlt x (List.mem_append_left _ hx)), trodAll_below hl hb hr.2 h2 (fun x hx => hlt x (List.mem_append_right _ hx)), rfl⟩
  | [], [], _ :: _, _, _, h, _ => h.elim
  | [], _ :: _, _, _, _, h, _ => by cases h
  | _ :: _, [], _, _, _, h, _ => by cases h
  | _ :: _, _ :: _, [], _, _, h, _ => by cases h
theorem law_post {H : Type} {enc : TypeId × Value → H} {P : Program} {fn : Func} {s : ChangeSpec} {bt : TypeId} (hv : s.vars = []) (hl : laidOutB P = true) (hp : (fn.params.toList.all fun t => P.readableRec t && decide (t < P.types.size)) = true)
    (hres : fn.resultTypes = #[bt]) (hbt : P.underlying bt = some .bool) (hfn : ∀ ds : List (DataW H), ds.length = fn.params.toList.length → s.fn H ds = { results := [.lit (.bool true)], args := ds })
    {W W' : World} {args : Array Value} {ds gs : List (DataW H)} {before : List MemPlace} (hW : DataW.Whole enc P fn.params.toList s.vars false W args.toList ds gs before) (hb : Below W.heap.size W W') :
    s.post enc P fn false true false false W args (.bool true) W' := by
  have hW' := hW
  have hlt := hW.lt
  obtain ⟨p, q, hA, hV, rfl, _, _⟩ := hW
  rw [hv] at hV
  obtain ⟨rfl, rfl⟩ := trodVars_none hV
  have hlen : ds.length = fn.params.toList.length := by
    have key : ∀ {ts : List TypeId} {vs : List Value} {ds : List (DataW H)} {ps : List MemPlace}, DataW.TrodAll enc P W 0 (fun _ => true) true ts vs ds ps → ds.length = ts.length := by
      intro ts
      induction ts with
      | nil => intro vs ds ps h; cases vs <;> cases ds <;> first | rfl | exact h.elim | cases h
      | cons t ts ih =>
        intro vs ds ps h
        cases vs with
        | nil => cases ds <;> first | exact h.elim | cases h
        | cons v vs =>
          cases ds with
          | nil => exact h.elim
          | cons d ds => obtain ⟨p, q, _, h2, _⟩ := h; simp [ih h2]
    exact key hA
  have hf := hfn ds hlen
  refine ⟨ds, [], p ++ [], [], p, [], hW', ?_, ?_, ?_, Below.frame hb _, fun h => by cases h⟩
  · rw [List.append_nil, hf, hres]
    exact trodAll_mk1 (shut_bool hbt true)
  · rw [List.append_nil, hf]
    exact trodAll_below hl hb hp hA (fun x hx => hlt x (List.mem_append_left _ hx))
  · rw [List.append_nil, hf, hv]
    rfl
def ofKind (P : Program) (k : IntKind) (x : TypeId) : Bool := match P.underlying x with | some (.int k') => kEq k k' | _ => false
def rowSh (P : Program) (t : TypeId) : Option Sh :=
  match P.cellTypes P.depth t with
  | some (u :: us) => match P.underlying u with
    | some (.int k) => match us.all (ofKind P k) with
      | true => some (.l k (P.cellsOf t))
      | false => none
    | _ => none
  | _ => none
def shOf (P : Program) (t : TypeId) : Option Sh :=
  match P.underlying t with
  | some (.int k) => some (.w k)
  | some .bool => some .b
  | some (.array _ _) => rowSh P t
  | some (.struct _) => rowSh P t
  | _ => none
theorem cell_int {P : Program} {W : World} {r : Reach} {base : Nat} {u : TypeId} {k : IntKind} {v : Value} (hu : P.underlying u = some (.int k)) (h : Cell.okWide P W r base u v) : ∃ n, v = Value.int k n ∧ okI k n := by
  unfold Cell.okWide at h
  rw [hu] at h
  cases v <;> simp [Cell.ok, hu] at h
  rename_i k' n
  obtain ⟨rfl, h2⟩ := h
  exact ⟨n, rfl, h2⟩
theorem shOf_R {P : Program} {W : World} {r : Reach} {base : Nat} {t : TypeId} {sh : Sh} {v : Value} (hs : shOf P t = some sh) (h : Value.okWide P W r base t v) :
    ∃ es, okL sh es ∧ (mkArg sh es).R (fun _ => 0) 0 v := by
  unfold shOf at hs
  have row : ∀ cs : Array Value, v = .agg cs → cs.size = P.cellsOf t → Row.okWide P W r base t cs → rowSh P t = some sh → ∃ es, okL sh es ∧ (mkArg sh es).R (fun _ => 0) 0 v := by
    intro cs hv hsz hrow hs
    obtain ⟨ts, hts, _, hcell⟩ := hrow
    unfold rowSh at hs
    rw [hts] at hs
    split at hs
    · rename_i u us hts'
      obtain rfl := Option.some.inj hts'
      split at hs
      · rename_i k hk
        split at hs
        · rename_i hall
          cases hs
          have hint : ∀ (i : Nat) (v : Value), cs[i]? = some v → ∃ n, v = Value.int k n ∧ okI k n := fun i v hi => by
            obtain ⟨x, hx, hc⟩ := hcell i v hi
            have hux : P.underlying x = some (.int k) := by
              rcases List.mem_cons.1 (List.mem_of_getElem? hx) with rfl | hx'
              · exact hk
              · have := List.all_eq_true.1 hall x hx'
                unfold ofKind at this
                split at this
                · rename_i k' hk'
                  rw [hk', kEq_of this]
                · cases this
            exact cell_int hux hc
          have hlist : ∀ l : List Value, (∀ (i : Nat) (v : Value), l[i]? = some v → ∃ n, v = Value.int k n ∧ okI k n) → ∃ es : List Int, l = es.map (Value.int k) ∧ ∀ e ∈ es, okI k e := by
            intro l
            induction l with
            | nil => intro _; exact ⟨[], rfl, by simp⟩
            | cons a l ih =>
              intro h
              obtain ⟨n, rfl, hn⟩ := h 0 a rfl
              obtain ⟨es, rfl, he⟩ := ih fun i v hi => h (i + 1) v (by simpa using hi)
              exact ⟨n :: es, rfl, by simpa using ⟨hn, he⟩⟩
          obtain ⟨es, he, hok⟩ := hlist cs.toList fun i v hi => hint i v (by simpa using hi)
          refine ⟨es, ⟨?_, hok⟩, cs.toList, by simp [hv], ?_⟩
          · have : es.length = cs.size := by rw [← Array.length_toList, he]; simp
            exact this.trans hsz
          · rw [he]
            exact All2.both _ _ es fun e he => ⟨hok e he, rfl⟩
        · cases hs
      · cases hs
    · cases hs
  unfold Value.okWide at h
  cases hu : P.underlying t with
  | none => rw [hu] at hs; cases hs
  | some d =>
    rw [hu] at h hs
    cases d with
    | int k =>
      cases hs
      obtain ⟨n, rfl, hn⟩ := cell_int hu h
      exact ⟨[n], ⟨rfl, fun e he => by rw [List.mem_singleton.1 he]; exact hn⟩, hn, rfl⟩
    | bool =>
      cases hs
      obtain ⟨c, rfl⟩ : ∃ c, v = Value.bool c := by
        simp only at h
        unfold Cell.okWide at h
        rw [hu] at h
        cases v <;> simp [Cell.ok, hu] at h
        exact ⟨_, rfl⟩
      exact ⟨[iteI c 1 0], okb c, by cases c <;> exact ⟨trivial, rfl⟩⟩
    | array n e => obtain ⟨cs, h1, h2, h3⟩ := h; exact row cs h1 h2 h3 hs
    | struct fs => obtain ⟨cs, h1, h2, h3⟩ := h; exact row cs h1 h2 h3 hs
    | _ => cases hs
end Go.Ax

namespace Go.Ax
open Go Go.RowKit
def endAt (P : AE → TM → Mem → Prop) : AE → TM → Mem → Out := fun e tm mem => .need (P e tm mem) (.done .any Mem.empty)
theorem body_step {C : Cfg} (hC : COk C) {n : Nat} {body : Code} {tm : TM} {mem : Mem} {P : AE → TM → Mem → Prop} (h : (exec C n (.run body) tm mem (endAt P)).sat (fun _ _ => True))
    {B : Nat → Prop} {w0 : World} {env : Nat → Nat} {a : Act} {w : World} (hr : Rel C B w0 env tm mem a w) {Q : Exit → Act → World → Prop}
    (hk : ∀ e tm' mem' env' a' w', P e tm' mem' → Rel C B w0 env' tm' mem' a' w' → Ext env mem.n env' mem'.n → Q e.conc a' w') : wpJ C.J body Q a w :=
  exec_ok hC n (.run body) tm mem (endAt P) h B w0 env a w Q hr fun e tm' mem' env' a' w' q1 q2 q3 => hk e tm' mem' env' a' w' q1.1 q2 q3
theorem Rel.less {C : Cfg} {B : Nat → Prop} {w0 w : World} {env : Nat → Nat} {tm tm' : TM} {mem : Mem} {a : Act} (h : Rel C B w0 env tm mem a w) (hs : tm'.sz = tm.sz) (hd : tm'.df = tm.df)
    (ht : ∀ t env m v, (tm.get t).R env m v → (tm'.get t).R env m v) : Rel C B w0 env tm' mem a w :=
  ⟨h.size.trans hs.symm, fun t => ht t _ _ _ (h.tmp t), hd ▸ h.defers, h.mem⟩
def loopsOf : Code → List Code
  | .seq a b => loopsOf a ++ loopsOf b
  | .cond _ a b => loopsOf a ++ loopsOf b
  | .block _ a => loopsOf a
  | .loop a => a :: loopsOf a
  | .scope a => loopsOf a
  | _ => []
def loopAt (fn : Func) (i : Nat) : Code := match fn.body with | some c => (loopsOf c).getD i .skip | none => .skip
def slots (sz : Nat) : List (Nat × AV) → TM
  | [] => ⟨sz, Tr.mk 10, []⟩
  | p :: l => (slots sz l).set p.1 p.2
theorem slots_sz {sz : Nat} : ∀ {l : List (Nat × AV)}, (slots sz l).sz = sz
  | [] => rfl
  | _ :: _ => (set_sz _ _ _).trans slots_sz
theorem slots_df {sz : Nat} : ∀ {l : List (Nat × AV)}, (slots sz l).df = []
  | [] => rfl
  | _ :: _ => (set_df _ _ _).trans slots_df
theorem slots_R {sz : Nat} {env : Nat → Nat} {m : Nat} {t : Nat} {v : Value} : ∀ {l : List (Nat × AV)}, (∀ p ∈ l, p.1 = t → p.2.R env m v) → ((slots sz l).get t).R env m v
  | [], _ => by simp only [slots, TM.get]; rw [Tr.get_mk]; exact AV.R_any
  | p :: l, h => by
    simp only [slots]
    by_cases hp : p.1 = t
    · unfold TM.set
      split
      · simp only [TM.get]
        rw [hp]
        cases hq : ((slots sz l).t.set t p.2).get t with
        | none => exact AV.R_any
        | some y => rw [Tr.get_set_eq _ _ _ _ hq]; exact h p (List.mem_cons_self ..) hp
      · exact slots_R fun q hq => h q (List.mem_cons_of_mem _ hq)
    · rw [show ((slots sz l).set p.1 p.2).get t = (slots sz l).get t from by
        unfold TM.set
        split
        · simp only [TM.get]; rw [Tr.get_set_ne _ _ _ _ hp]
        · rfl]
      exact slots_R fun q hq => h q (List.mem_cons_of_mem _ hq)
theorem Rel.slots {C : Cfg} {B : Nat → Prop} {w0 w : World} {env : Nat → Nat} {tm : TM} {mem : Mem} {a : Act} (h : Rel C B w0 env tm mem a w) {sz : Nat} (hs : tm.sz = sz) (hd : tm.df = []) {l : List (Nat × AV)}
    (hl : ∀ p ∈ l, ∀ env m v, (tm.get p.1).R env m v → p.2.R env m v) : Rel C B w0 env (slots sz l) mem a w :=
  h.less (slots_sz.trans hs.symm) (slots_df.trans hd.symm) fun t _ _ _ hv => slots_R fun p hp ht => by subst ht; exact hl p hp _ _ _ hv
theorem MR.cast {C C' : Cfg} {B : Nat → Prop} {w0 w : World} {env : Nat → Nat} {mem : Mem} (hgl : C'.gl = C.gl) (hgd : C'.gd = C.gd) (h : MR C B w0 env mem w) : MR C' B w0 env mem w :=
  ⟨h.below, h.base, h.lt, h.blk, h.sep, by rw [hgl]; exact h.gl, by rw [hgd]; exact h.gd⟩
theorem Rel.cast {C C' : Cfg} {B : Nat → Prop} {w0 w : World} {env : Nat → Nat} {tm : TM} {mem : Mem} {a : Act} (hgl : C'.gl = C.gl) (hgd : C'.gd = C.gd) (h : Rel C B w0 env tm mem a w) : Rel C' B w0 env tm mem a w :=
  ⟨h.size, h.tmp, h.defers, h.mem.cast hgl hgd⟩
theorem LoopOk.cast {C C' : Cfg} {bd : Code} {F : TM → Mem → Option (List Cnd × AE × TM × Mem)} (hP : C'.sig = C.sig) (hgl : C'.gl = C.gl) (hgd : C'.gd = C.gd) (h : LoopOk C bd F) : LoopOk C' bd F := by
  intro tm mem ps e tm' mem' hF hp B w0 env a w Q hr hk
  exact sig_wp hP (h tm mem ps e tm' mem' hF hp B w0 env a w Q (hr.cast hgl.symm hgd.symm) fun env' a' w' hr' hE => hk env' a' w' (hr'.cast hgl hgd) hE)
def memX (gd : List (Nat × List SV)) (xs : List AB) : Mem := ⟨gd.length + xs.length, Tr.ofList (Tr.mk 14) 0 ((gd.map fun p => .ro p.2) ++ xs)⟩
def envX (gd : List (Nat × List SV)) (es : List Nat) (i : Nat) : Nat := match (gd[i]?).map (·.1) with | some g => g | none => es.getD (i - gd.length) 0
theorem envX_at {gd : List (Nat × List SV)} {es : List Nat} (j : Nat) : envX gd es (gd.length + j) = es.getD j 0 := by
  unfold envX
  rw [List.getElem?_eq_none (by omega)]
  simp
theorem MR.focusE {C : Cfg} {B : Nat → Prop} {w : World} (hgl : C.gl = glFrom 0 C.gd) (hgd : GDp C.gd B w) (hB : ∀ b, B b → b < w.heap.size) {xs : List AB} {es : List Nat}
    (hx : ∀ (j : Nat) (ab : AB), xs[j]? = some ab → ab.R (envX C.gd es) (C.gd.length + xs.length) B w (es.getD j 0))
    (hs : ∀ (i j : Nat) (a b : AB), xs[i]? = some a → xs[j]? = some b → i ≠ j → a.wr = true → b.wr = true → es.getD i 0 ≠ es.getD j 0) : MR C B w (envX C.gd es) (memX C.gd xs) w := by
  have hold : ∀ i ab, (memX C.gd xs).get i = some ab → (i < C.gd.length ∧ ∃ p, C.gd[i]? = some p ∧ ab = .ro p.2) ∨ (∃ j, i = C.gd.length + j ∧ xs[j]? = some ab) := by
    intro i ab hi
    rcases ofList_get _ _ _ _ _ hi with h | ⟨_, h⟩
    · rw [Tr.get_mk] at h; cases h
    · simp only [Nat.sub_zero] at h
      by_cases hl : i < C.gd.length
      · rw [List.getElem?_append_left (by simpa using hl), List.getElem?_map] at h
        obtain ⟨p, hp, rfl⟩ := Option.map_eq_some_iff.1 h
        exact .inl ⟨hl, p, hp, rfl⟩
      · rw [List.getElem?_append_right (by simpa using hl)] at h
        exact .inr ⟨i - C.gd.length, by omega, by simpa using h⟩
  refine ⟨Keep.refl _ _, hB, fun i ab hi => ?_, fun i ab hi => ?_, fun i j a b hi hj hne ha hb => ?_, fun p hp => ?_, hgd⟩
  · show i < C.gd.length + xs.length
    rcases hold i ab hi with ⟨h, _⟩ | ⟨j, rfl, h⟩
    · omega
    · have := (List.getElem?_eq_some_iff.1 h).1; omega
  · rcases hold i ab hi with ⟨_, p, hp, rfl⟩ | ⟨j, rfl, h⟩
    · obtain ⟨h1, vs, rest, t, fr, h2, h3⟩ := hgd p (List.mem_of_getElem? hp)
      have he : envX C.gd es i = p.1 := by unfold envX; rw [hp]; rfl
      rw [he]
      exact ⟨vs, rest, t, fr, h2, h3.imp fun _ _ => SV.R_ext ⟨Nat.zero_le _, fun _ hi => absurd hi (Nat.not_lt_zero _)⟩, h1⟩
    · rw [envX_at]; exact hx j ab h
  · rcases hold i a hi with ⟨_, p, _, rfl⟩ | ⟨i', rfl, h1⟩
    · cases ha
    · rcases hold j b hj with ⟨_, p, _, rfl⟩ | ⟨j', rfl, h2⟩
      · cases hb
      · rw [envX_at, envX_at]; exact hs i' j' a b h1 h2 (by omega) ha hb
  · rw [hgl] at hp
    obtain ⟨j, h1, q, h2, h3⟩ := mem_glFrom hp
    have hj : p.2 = j := by omega
    rw [hj]
    have hl := (List.getElem?_eq_some_iff.1 h2).1
    refine ⟨by unfold envX; rw [h2]; exact h3, ?_⟩
    show j < C.gd.length + xs.length
    omega
end Go.Ax

namespace Go.Ax
open Go Go.RowKit
inductive SE where
  | w (k : IntKind)
  | l (k : IntKind) (n : Nat)
  | s (k : IntKind)
  | b
inductive SH where
  | one (e : SE)
  | grp (l : List SE)
def SH.ents : SH → List SE
  | .one e => [e]
  | .grp l => l
def entsQ (shs : List SH) : List SE := shs.flatMap SH.ents
def parseE (mem : Mem) : SE → AV → Option (List Cnd × List Int)
  | .w k, x => match x.num with
    | some (k', n) => if kEq k k' then some ([], [n]) else none
    | none => none
  | .l k n, .agg l => match intsOf k l with
    | some es => if Nat.beq es.length n then some ([], es) else none
    | none => none
  | .s k, x => match srcQ mem k x with
    | some (ps, k', M) => if kEq k k' then some (ps, M) else none
    | none => none
  | .b, x => match x.bool? with
    | some (_, c) => some ([], [iteI c 1 0])
    | none => none
  | _, _ => none
def parseEs (mem : Mem) : List SE → List AV → Option (List Cnd × List (List Int))
  | [], [] => some ([], [])
  | sh :: shs, x :: xs => match parseE mem sh x, parseEs mem shs xs with | some (ps, es), some (qs, ess) => some (ps ++ qs, es :: ess) | _, _ => none
  | _, _ => none
def SH.parts : SH → AV → Option (List AV)
  | .one _, x => some [x]
  | .grp l, .agg cs => match Nat.beq cs.length l.length with | true => some (cs.map .one) | false => none
  | _, _ => none
def openQ : List SH → List AV → Option (List AV)
  | [], [] => some []
  | sh :: shs, x :: xs => match sh.parts x, openQ shs xs with | some a, some b => some (a ++ b) | _, _ => none
  | _, _ => none
def AV.cell1 : AV → SV
  | .one s => s
  | _ => .any
def groupQ : List SH → List AV → List AV
  | [], _ => []
  | .one _ :: shs, xs => xs.headD .any :: groupQ shs (xs.drop 1)
  | .grp l :: shs, xs => .agg ((xs.take l.length).map AV.cell1) :: groupQ shs (xs.drop l.length)
def fsum (shs : List SH) (conds : List (List Int) → List Cnd) (T : List (List Int) → RT) : List AV → Mem → Option (List Cnd × RT) := fun args mem =>
  match openQ shs args with
  | some fl => match parseEs mem (entsQ shs) fl with
    | some (ps, ess) => some (ps ++ conds ess, T ess)
    | none => none
  | none => none
def SE.ok : SE → List Int → Prop
  | .w k, es => es.length = 1 ∧ ∀ x ∈ es, okI k x
  | .l k n, es => es.length = n ∧ ∀ x ∈ es, okI k x
  | .s k, es => es.length ≤ 9223372036854775807 ∧ ∀ x ∈ es, okI k x
  | .b, es => es = [0] ∨ es = [1]
def argE (b : Nat) (M : List Int) : SE → AV
  | .w k => .one (.si k (M.getD 0 0))
  | .l k n => .agg ((tab n fun i => M.getD i 0).map (.si k))
  | .s _ => .one (.slr b (b + 1) 0 M.length)
  | .b => .one (.sb (M.getD 0 0 != 0))
def blkE (g : Nat) (M : List Int) : SE → AB
  | .s k => .rseq k M g
  | _ => .gone
def argsE (b : Nat) (Ms : Nat → List Int) : Nat → List SE → List AV
  | _, [] => []
  | i, sh :: shs => argE (b + 2 * i) (Ms i) sh :: argsE b Ms (i + 1) shs
def blksE (b : Nat) (Ms : Nat → List Int) : Nat → List SE → List AB
  | _, [] => []
  | i, sh :: shs => blkE (b + 2 * i + 1) (Ms i) sh :: .gone :: blksE b Ms (i + 1) shs
def dataE (Ms : Nat → List Int) : Nat → List SE → List (List Int)
  | _, [] => []
  | i, _ :: shs => Ms i :: dataE Ms (i + 1) shs
def okE (Ms : Nat → List Int) : Nat → List SE → Prop
  | _, [] => True
  | i, sh :: shs => sh.ok (Ms i) ∧ okE Ms (i + 1) shs
def RC.sat (mem : Mem) : RC → SV → List Nat → Prop
  | .i k x, v, js => v.sym = .si k x ∧ js = []
  | .b x, v, js => v.sym = .sb x ∧ js = []
  | .s t k L, v, js => (∃ j g n, v = .sq j g 0 n ∧ mem.get j = some (.seq t k L g) ∧ n = L.length ∧ js = [j]) ∨ (∃ j n l, v = .slice j 0 n n ∧ mem.get j = some (.cells t l) ∧ intsOf k l = some L ∧ n = l.length ∧ js = [j])
  | .e, v, js => (v = .e0 ∨ v = .raw (.slice none 0 0) ∨ ∃ j o, v = .slice j o 0 0) ∧ js = []
def satRC (mem : Mem) : List RC → List SV → List Nat → Prop
  | [], [], js => js = []
  | r :: rs, v :: vs, js => ∃ a b, js = a ++ b ∧ r.sat mem v a ∧ satRC mem rs vs b
  | _, _, _ => False
def RP.asmA : RP → List SV → TV → Prop
  | .c _, vs, v => ∃ s, vs = [s] ∧ v = .one s
  | .g _, vs, v => v = .agg vs
def asmAP : List RP → List SV → List TV → Prop
  | [], vs, ps => vs = [] ∧ ps = []
  | r :: rs, vs, ps => ∃ a b p qs, vs = a ++ b ∧ ps = p :: qs ∧ a.length = r.cells.length ∧ r.asmA a p ∧ asmAP rs b qs
def RS.asmA : RS → List SV → AV → Prop
  | .p (.c _), vs, v => ∃ s, vs = [s] ∧ v = .one s
  | .p (.g _), vs, v => v = .agg vs
  | .t l, vs, v => ∃ ps, v = .tup ps ∧ asmAP l vs ps
def RS.sat (mem : Mem) (r : RS) (v : AV) : Prop := ∃ vs js, r.asmA vs v ∧ satRC mem r.cells vs js ∧ js.Nodup
section
variable {C : Cfg} {B : Nat → Prop} {w0 w : World} {env : Nat → Nat} {mem : Mem} {P : Program}
def ArgLies (w : World) : SE → List Int → Value → Prop
  | .w k, es, v => ∃ n, es = [n] ∧ v = .int k n ∧ okI k n
  | .l k n, es, v => es.length = n ∧ v = .agg (es.map (Value.int k)).toArray ∧ ∀ x ∈ es, okI k x
  | .s k, es, v => Lies w v k es
  | .b, es, v => ∃ c, v = .bool c ∧ es = [iteI c 1 0]
theorem parseE_spec {sh : SE} {x : AV} {ps : List Cnd} {es : List Int} {v : Value} (hm : MR C B w0 env mem w) (h : parseE mem sh x = some (ps, es)) (hp : allP ps) (hx : x.R env mem.n v) : ArgLies w sh es v := by
  cases sh with
  | w k =>
    simp only [parseE] at h
    split at h
    · rename_i k' n hn
      split at h
      · rename_i hk
        have hk := kEq_of hk
        subst hk
        cases h
        obtain ⟨h1, h2⟩ := num_val hn hx
        exact ⟨n, rfl, h1, h2⟩
      · cases h
    · cases h
  | l k n =>
    cases x with
    | agg l =>
      simp only [parseE] at h
      split at h
      · rename_i es' he
        split at h
        · rename_i hn
          cases h
          obtain ⟨vs, rfl, hR⟩ := hx
          obtain ⟨e1, e2⟩ := intsOf_R he hR
          exact ⟨Nat.eq_of_beq_eq_true hn, by rw [e1], e2⟩
        · cases h
      · cases h
    | one s => cases h
    | tup l => cases h
  | s k =>
    have h : (match srcQ mem k x with | some (ps, k', M) => if kEq k k' then some (ps, M) else none | none => none) = some (ps, es) := by cases x <;> exact h
    split at h
    · rename_i ps' k' M hs
      split at h
      · rename_i hk
        have hk := kEq_of hk
        subst hk
        cases h
        exact srcQ_lies hm hs hp hx
      · cases h
    · cases h
  | b =>
    have h : (match x.bool? with | some (_, c) => some (([] : List Cnd), [iteI c 1 0]) | none => none) = some (ps, es) := by cases x <;> exact h
    split at h
    · rename_i p c hb
      cases h
      exact ⟨c, bool?_val hb hx, rfl⟩
    · cases h
theorem parseEs_spec (hm : MR C B w0 env mem w) : ∀ {shs : List SE} {args : List AV} {ps : List Cnd} {ess : List (List Int)} {vals : List Value}, parseEs mem shs args = some (ps, ess) → allP ps → All2 (AV.R env mem.n) args vals →
    ess.length = shs.length ∧ vals.length = shs.length ∧ ∀ i sh, shs[i]? = some sh → ∃ v, vals[i]? = some v ∧ ArgLies w sh (ess.getD i []) v
  | [], [], ps, ess, vals, h, _, ha => by
    cases h
    cases vals with
    | nil => exact ⟨rfl, rfl, fun i sh hi => by cases hi⟩
    | cons _ _ => exact ha.elim
  | [], _ :: _, _, _, _, h, _, _ => by cases h
  | _ :: _, [], _, _, _, h, _, _ => by cases h
  | sh :: shs, x :: xs, ps, ess, vals, h, hp, ha => by
    simp only [parseEs] at h
    split at h
    · rename_i ps1 es1 ps2 ess2 h1 h2
      cases h
      rw [allP_iff] at hp
      cases vals with
      | nil => exact ha.elim
      | cons v vals =>
        have q1 := parseE_spec hm h1 hp.1 ha.1
        obtain ⟨q2, q4, q3⟩ := parseEs_spec hm h2 hp.2 ha.2
        refine ⟨by simp [q2], by simp [q4], fun i sh' hi => ?_⟩
        cases i with
        | zero => simp at hi; subst hi; exact ⟨v, rfl, q1⟩
        | succ i => simpa using q3 i sh' (by simpa using hi)
    · cases h
theorem argsE_get {b : Nat} {Ms : Nat → List Int} : ∀ {shs : List SE} {i j : Nat} {x : AV}, (argsE b Ms i shs)[j]? = some x → ∃ sh, shs[j]? = some sh ∧ x = argE (b + 2 * (i + j)) (Ms (i + j)) sh
  | [], _, _, _, h => by cases h
  | sh :: shs, i, j, x, h => by
    cases j with
    | zero => simp only [argsE, List.getElem?_cons_zero, Option.some.injEq] at h; exact ⟨sh, rfl, h.symm⟩
    | succ j =>
      simp only [argsE, List.getElem?_cons_succ] at h
      obtain ⟨sh', h1, h2⟩ := argsE_get h
      exact ⟨sh', by simpa using h1, by rw [h2, show i + 1 + j = i + (j + 1) by omega]⟩
theorem blksE_get {b : Nat} {Ms : Nat → List Int} : ∀ {shs : List SE} {i j : Nat} {x : AB}, (blksE b Ms i shs)[j]? = some x → (∃ p sh, j = 2 * p ∧ shs[p]? = some sh ∧ x = blkE (b + 2 * (i + p) + 1) (Ms (i + p)) sh) ∨ x = .gone
  | [], _, _, _, h => by cases h
  | sh :: shs, i, j, x, h => by
    match j, h with
    | 0, h => simp only [blksE, List.getElem?_cons_zero, Option.some.injEq] at h; exact .inl ⟨0, sh, rfl, rfl, h.symm⟩
    | 1, h => simp only [blksE, List.getElem?_cons_succ, List.getElem?_cons_zero, Option.some.injEq] at h; exact .inr h.symm
    | j + 2, h =>
      simp only [blksE, List.getElem?_cons_succ] at h
      rcases blksE_get h with ⟨p, sh', h1, h2, h3⟩ | h
      · exact .inl ⟨p + 1, sh', by omega, by simpa using h2, by rw [h3, show i + 1 + p = i + (p + 1) by omega]⟩
      · exact .inr h
theorem argsE_len {b : Nat} {Ms : Nat → List Int} : ∀ {shs : List SE} {i : Nat}, (argsE b Ms i shs).length = shs.length
  | [], _ => rfl
  | _ :: shs, i => by simp [argsE, argsE_len (shs := shs) (i := i + 1)]
theorem blksE_len {b : Nat} {Ms : Nat → List Int} : ∀ {shs : List SE} {i : Nat}, (blksE b Ms i shs).length = 2 * shs.length
  | [], _ => rfl
  | _ :: shs, i => by simp [blksE, blksE_len (shs := shs) (i := i + 1)]; omega
theorem all2_of_get {α β : Type} {R : α → β → Prop} : ∀ {l : List α} {m : List β}, l.length = m.length → (∀ (i : Nat) (a : α), l[i]? = some a → ∃ b, m[i]? = some b ∧ R a b) → All2 R l m
  | [], [], _, _ => trivial
  | a :: l, b :: m, hl, h => by
    refine ⟨?_, all2_of_get (by simpa using hl) fun i x hi => ?_⟩
    · obtain ⟨b', h1, h2⟩ := h 0 a rfl
      cases h1; exact h2
    · obtain ⟨b', h1, h2⟩ := h (i + 1) x (by simpa using hi)
      exact ⟨b', by simpa using h1, h2⟩
  | [], _ :: _, hl, _ => by cases hl
  | _ :: _, [], hl, _ => by cases hl
theorem dataE_eq {Ms : Nat → List Int} : ∀ {shs : List SE} {i : Nat} {ess : List (List Int)}, ess.length = shs.length → (∀ j, j < ess.length → Ms (i + j) = ess.getD j []) → dataE Ms i shs = ess
  | [], _, [], _, _ => rfl
  | [], _, _ :: _, h, _ => by cases h
  | _ :: _, _, [], h, _ => by cases h
  | sh :: shs, i, es :: ess, h, he => by
    simp only [dataE]
    have h0 := he 0 (by simp)
    simp only [Nat.add_zero, List.getD_cons_zero] at h0
    rw [h0, dataE_eq (i := i + 1) (ess := ess) (by simpa using h) fun j hj => by
      have := he (j + 1) (by simpa using hj)
      rw [show i + 1 + j = i + (j + 1) by omega, this]; simp]
theorem pre_of {sh : SE} {es : List Int} {v : Value} (h : ArgLies w sh es v) : ∃ (b o : Nat), sh.ok es ∧
    (∀ (env' : Nat → Nat) (m' g : Nat), g < m' → env' g = o → (blkE g es sh).R env' m' (· < w.heap.size) w b) ∧ ∀ (env' : Nat → Nat) (m' j : Nat), j + 1 < m' → env' j = b → env' (j + 1) = o → (argE j es sh).R env' m' v := by
  cases sh with
  | w k =>
    obtain ⟨n, rfl, rfl, hk⟩ := h
    exact ⟨0, 0, ⟨rfl, by simpa using hk⟩, fun _ _ _ _ _ => trivial, fun _ _ _ _ _ _ => ⟨hk, rfl⟩⟩
  | l k n =>
    obtain ⟨h1, rfl, h2⟩ := h
    refine ⟨0, 0, ⟨h1, h2⟩, fun _ _ _ _ _ => trivial, fun _ _ _ _ _ _ => ⟨_, rfl, ?_⟩⟩
    rw [show (tab n fun i => es.getD i 0) = es from tab_self h1]
    exact All2.both _ _ es fun e he => ⟨h2 e he, rfl⟩
  | s k =>
    obtain ⟨p, c, rfl, h1, h2, h3, b, o, h5⟩ := h
    refine ⟨b, o, ⟨by omega, h3⟩, fun env' m' g hg he => ?_, fun env' m' j hj he he2 => ⟨⟨by omega, hj⟩, p, c, h1, h2, rfl, ?_⟩⟩
    · rcases h5 with h5 | ⟨_, front, rest, t, fr, hf, hh⟩
      · exact .inl h5
      · exact .inr ⟨front, rest, t, fr, hh, ⟨hf.trans he.symm, hg, h3⟩, (Array.getElem?_eq_some_iff.1 hh).1⟩
    · rcases h5 with rfl | ⟨rfl, _⟩
      · exact .inl rfl
      · exact .inr (by rw [he, he2, Nat.add_zero])
  | b =>
    obtain ⟨c, rfl, rfl⟩ := h
    refine ⟨0, 0, ?_, fun _ _ _ _ _ => trivial, fun _ _ _ _ _ _ => ?_⟩
    · cases c
      · exact .inl rfl
      · exact .inr rfl
    · cases c <;> exact ⟨trivial, rfl⟩
def OpnV : List SH → List Value → List Value → Prop
  | [], [], fl => fl = []
  | .one _ :: shs, v :: vs, fl => ∃ rest, fl = v :: rest ∧ OpnV shs vs rest
  | .grp l :: shs, v :: vs, fl => ∃ a rest, fl = a ++ rest ∧ a.length = l.length ∧ v = .agg a.toArray ∧ OpnV shs vs rest
  | _, _, _ => False
theorem all2_one {N : Nat} : ∀ {l : List SV} {vs : List Value}, All2 (SV.R env N) l vs → All2 (AV.R env N) (l.map .one) vs
  | [], [], _ => trivial
  | _ :: _, _ :: _, h => ⟨h.1, all2_one h.2⟩
  | [], _ :: _, h => h.elim
  | _ :: _, [], h => h.elim
theorem all2_cell {N : Nat} : ∀ {l : List AV} {vs : List Value}, All2 (AV.R env N) l vs → All2 (SV.R env N) (l.map AV.cell1) vs
  | [], [], _ => trivial
  | x :: _, _ :: _, h => ⟨by cases x with
      | one s => exact h.1
      | agg l => trivial
      | tup l => trivial, all2_cell h.2⟩
  | [], _ :: _, h => h.elim
  | _ :: _, [], h => h.elim
theorem openQ_R : ∀ {shs : List SH} {args fl : List AV} {vals : List Value}, openQ shs args = some fl → All2 (AV.R env mem.n) args vals → ∃ flv, OpnV shs vals flv ∧ All2 (AV.R env mem.n) fl flv
  | [], [], _, [], h, _ => by cases h; exact ⟨[], rfl, trivial⟩
  | [], [], _, _ :: _, _, h => h.elim
  | [], _ :: _, _, _, h, _ => by cases h
  | _ :: _, [], _, _, h, _ => by cases h
  | _ :: _, _ :: _, _, [], _, h => h.elim
  | sh :: shs, x :: xs, fl, v :: vs, h, ha => by
    simp only [openQ] at h
    split at h
    · rename_i a b h1 h2
      cases h
      obtain ⟨rest, q1, q2⟩ := openQ_R h2 ha.2
      cases sh with
      | one e => cases h1; exact ⟨v :: rest, ⟨rest, rfl, q1⟩, ha.1, q2⟩
      | grp l =>
        cases x with
        | agg cs =>
          simp only [SH.parts] at h1
          split at h1
          · rename_i hl
            cases h1
            obtain ⟨ws, rfl, hR⟩ := ha.1
            exact ⟨ws ++ rest, ⟨ws, rest, rfl, by rw [← hR.length]; exact Nat.eq_of_beq_eq_true hl, rfl, q1⟩, All2.append (all2_one hR) q2⟩
          · cases h1
        | one s => cases h1
        | tup l => cases h1
    · cases h
theorem groupQ_R {N : Nat} : ∀ {shs : List SH} {fl : List AV} {vals flv : List Value}, OpnV shs vals flv → All2 (AV.R env N) fl flv → All2 (AV.R env N) (groupQ shs fl) vals
  | [], _, [], _, _, _ => trivial
  | [], _, _ :: _, _, h, _ => h.elim
  | sh :: _, _, [], _, h, _ => by
    cases sh <;> exact False.elim h
  | .one e :: shs, fl, v :: vs, flv, h, ha => by
    obtain ⟨rest, rfl, h⟩ := h
    cases fl with
    | nil => exact ha.elim
    | cons x fl => exact ⟨ha.1, groupQ_R h ha.2⟩
  | .grp l :: shs, fl, v :: vs, flv, h, ha => by
    obtain ⟨a, rest, rfl, hl, rfl, h⟩ := h
    have hlen := ha.length
    have e : fl = fl.take l.length ++ fl.drop l.length := (List.take_append_drop _ _).symm
    rw [e] at ha
    obtain ⟨q1, q2⟩ := all2_split (by simp at hlen ⊢; omega) ha
    exact ⟨⟨a, rfl, all2_cell q1⟩, groupQ_R h q2⟩
theorem satRC_holds {w' : World} (hc : MR C (· < w.heap.size) w env mem w') : ∀ {l : List RC} {svs : List SV} {js : List Nat} {vs : List Value}, satRC mem l svs js → All2 (SV.R env mem.n) svs vs →
    holdsRC w' w.heap.size l vs (js.map env) ∧ ∀ j ∈ js, ∃ ab, mem.get j = some ab ∧ ab.wr = true
  | [], [], js, [], h, _ => by
    simp only [satRC] at h; subst h
    exact ⟨rfl, fun j hj => by cases hj⟩
  | [], [], _, _ :: _, _, h => h.elim
  | [], _ :: _, _, _, h, _ => h.elim
  | _ :: _, [], _, _, h, _ => h.elim
  | _ :: _, _ :: _, _, [], _, h => h.elim
  | c :: cs, s :: svs, js, v :: vs, h, ha => by
    obtain ⟨a, b, rfl, h1, h2⟩ := h
    obtain ⟨q1, q2⟩ := satRC_holds hc h2 ha.2
    have one : c.holds w' w.heap.size v (a.map env) ∧ ∀ j ∈ a, ∃ ab, mem.get j = some ab ∧ ab.wr = true := by
      cases c with
      | i k x =>
        obtain ⟨h1, rfl⟩ := h1
        have hR := SV.sym_R ha.1
        rw [h1] at hR
        exact ⟨⟨hR.2, hR.1, rfl⟩, fun j hj => by cases hj⟩
      | b x =>
        obtain ⟨h1, rfl⟩ := h1
        have hR := SV.sym_R ha.1
        rw [h1] at hR
        exact ⟨⟨hR.2, rfl⟩, fun j hj => by cases hj⟩
      | e =>
        obtain ⟨h1, rfl⟩ := h1
        refine ⟨⟨?_, rfl⟩, fun j hj => by cases hj⟩
        rcases h1 with rfl | rfl | ⟨j, o, rfl⟩
        · exact ha.1.2
        · exact ⟨none, ha.1.2⟩
        · exact ⟨_, ha.1.2⟩
      | s t k L =>
        rcases h1 with ⟨j, g, n, rfl, hj, rfl, rfl⟩ | ⟨j, n, l, rfl, hj, hl, rfl, rfl⟩
        · obtain ⟨_, o', ho, hg1, hg2, rfl⟩ := ha.1
          obtain ⟨rest, hh, hl, hgm, hok, hB⟩ := hc.blk j _ hj
          refine ⟨⟨env j, o', rest, rfl, Nat.le_of_not_lt hB, by rw [hl]; exact ho, by rw [hl]; exact hg2, by rw [hl]; rfl, hh, hok⟩, fun j' hj' => ?_⟩
          obtain rfl : j' = j := by simpa using hj'
          exact ⟨_, hj, rfl⟩
        · obtain ⟨⟨_, _, hcap⟩, rfl⟩ := ha.1
          obtain ⟨vs', hh, hR, hB⟩ := hc.blk j _ hj
          obtain ⟨e1, e2⟩ := intsOf_R hl hR
          have hlen : L.length = l.length := by have h1 := hR.length; rw [e1] at h1; simpa using h1.symm
          refine ⟨⟨env j, 0, [], rfl, Nat.le_of_not_lt hB, .inl rfl, by simp [hlen]; exact hcap, by simp [SV.conc, hlen], by rw [List.append_nil, ← e1]; exact hh, e2⟩, fun j' hj' => ?_⟩
          obtain rfl : j' = j := by simpa using hj'
          exact ⟨_, hj, rfl⟩
    refine ⟨⟨a.map env, b.map env, by simp, one.1, q1⟩, fun j hj => ?_⟩
    rcases List.mem_append.1 hj with hj | hj
    · exact one.2 j hj
    · exact q2 j hj
theorem nodup_map {α β : Type} {f : α → β} : ∀ {l : List α}, l.Nodup → (∀ x ∈ l, ∀ y ∈ l, x ≠ y → f x ≠ f y) → (l.map f).Nodup
  | [], _, _ => List.nodup_nil
  | x :: l, h, hf => by
    obtain ⟨h1, h2⟩ := List.nodup_cons.1 h
    rw [List.map_cons, List.nodup_cons]
    refine ⟨fun hm => ?_, nodup_map h2 fun a ha b hb => hf a (by simp [ha]) b (by simp [hb])⟩
    obtain ⟨y, hy, he⟩ := List.mem_map.1 hm
    exact hf x (by simp) y (by simp [hy]) (fun e => h1 (by rw [e]; exact hy)) he.symm
theorem asmAP_val {N : Nat} : ∀ {l : List RP} {svs : List SV} {ps : List TV} {vs : List Value}, asmAP l svs ps → All2 (TV.R env N) ps vs → ∃ flat, asmRP l flat vs ∧ All2 (SV.R env N) svs flat
  | [], svs, ps, vs, h, ha => by
    obtain ⟨rfl, rfl⟩ := h
    cases vs with
    | nil => exact ⟨[], ⟨rfl, rfl⟩, trivial⟩
    | cons _ _ => exact ha.elim
  | r :: rs, svs, ps, vs, h, ha => by
    obtain ⟨a, b, p, qs, rfl, rfl, hl, h1, h2⟩ := h
    cases vs with
    | nil => exact ha.elim
    | cons v vs =>
      obtain ⟨flat, q1, q2⟩ := asmAP_val h2 ha.2
      cases r with
      | c x =>
        obtain ⟨s, rfl, rfl⟩ := h1
        exact ⟨v :: flat, ⟨[v], flat, v, vs, rfl, rfl, rfl, rfl, q1⟩, ha.1, q2⟩
      | g l =>
        obtain rfl : p = .agg a := h1
        obtain ⟨ws, rfl, hR⟩ := ha.1
        exact ⟨ws ++ flat, ⟨ws, flat, _, vs, rfl, rfl, by rw [← hR.length]; exact hl, rfl, q1⟩, All2.append hR q2⟩
theorem RS.asmA_val {N : Nat} {r : RS} {svs : List SV} {x : AV} {v : Value} (h : r.asmA svs x) (ha : x.R env N v) : ∃ flat, r.asm flat v ∧ All2 (SV.R env N) svs flat := by
  cases r with
  | p y =>
    cases y with
    | c z => obtain ⟨s, rfl, rfl⟩ := h; exact ⟨[v], rfl, ha, trivial⟩
    | g l => obtain rfl : x = .agg svs := h; obtain ⟨ws, rfl, hR⟩ := ha; exact ⟨ws, rfl, hR⟩
  | t l =>
    obtain ⟨ps, rfl, h⟩ := h
    obtain ⟨ws, rfl, hR⟩ := ha
    obtain ⟨flat, q1, q2⟩ := asmAP_val h hR
    exact ⟨flat, ⟨ws, rfl, q1⟩, q2⟩
theorem RS.sat_holds {w' : World} (hc : MR C (· < w.heap.size) w env mem w') {r : RS} {x : AV} {v : Value} (h : r.sat mem x) (hv : x.R env mem.n v) : r.Holds w' w.heap.size v := by
  obtain ⟨svs, js, h1, h2, h3⟩ := h
  obtain ⟨flat, q1, q2⟩ := RS.asmA_val h1 hv
  obtain ⟨q3, q4⟩ := satRC_holds hc h2 q2
  refine ⟨flat, js.map env, q1, q3, nodup_map h3 fun a ha b hb hab => ?_⟩
  obtain ⟨x, hx, hwx⟩ := q4 a ha
  obtain ⟨y, hy, hwy⟩ := q4 b hb
  exact hc.sep a b x y hx hy hab hwx hwy
theorem RC.sat_mono {m m' : Mem} (h : ∀ j ab, m.get j = some ab → m'.get j = some ab) {r : RC} {v : SV} {js : List Nat} (hs : r.sat m v js) : r.sat m' v js := by
  cases r with
  | i k x => exact hs
  | b x => exact hs
  | e => exact hs
  | s t k L =>
    rcases hs with ⟨j, g, n, q1, q2, q3⟩ | ⟨j, n, l, q1, q2, q3⟩
    · exact .inl ⟨j, g, n, q1, h _ _ q2, q3⟩
    · exact .inr ⟨j, n, l, q1, h _ _ q2, q3⟩
theorem satRC_mono {m m' : Mem} (h : ∀ j ab, m.get j = some ab → m'.get j = some ab) : ∀ {l : List RC} {vs : List SV} {js : List Nat}, satRC m l vs js → satRC m' l vs js
  | [], [], _, hs => hs
  | r :: rs, v :: vs, js, hs => by
    obtain ⟨a, b, e, h1, h2⟩ := hs
    exact ⟨a, b, e, RC.sat_mono h h1, satRC_mono h h2⟩
  | [], _ :: _, _, hs => hs.elim
  | _ :: _, [], _, hs => hs.elim
theorem keep_sat {tell : Bool} {m : Mem} {r : RS} {v : AV} (h : r.sat (keepMem tell m) v) : r.sat m v := by
  cases tell with
  | true => exact h
  | false =>
    obtain ⟨vs, js, h1, h2, h3⟩ := h
    refine ⟨vs, js, h1, satRC_mono (fun j ab hj => ?_) h2, h3⟩
    exfalso
    have hj : (Tr.mk 14 : Tr AB).get j = some ab := hj
    rw [Tr.get_mk] at hj
    cases hj
theorem fok_core {C : Cfg} (hC : COk C) (hgl : C.gl = glFrom 0 C.gd) {g : Nat} {fn : Func} (hfn : FnOk C.P g fn) {shs : List SH} {conds : List (List Int) → List Cnd} {T : List (List Int) → RT} (n : Nat) {tell : Bool}
    (hrun : ∀ Ms : Nat → List Int, okE Ms 0 (entsQ shs) → allP (conds (dataE Ms 0 (entsQ shs))) → ∃ o, callA C tell n fn (groupQ shs (argsE C.gd.length Ms 0 (entsQ shs))) (memX C.gd (blksE C.gd.length Ms 0 (entsQ shs))) = o ∧ o.sat fun v m => (T (dataE Ms 0 (entsQ shs))).now.sat m v)
    {w : World} {vals flv : List Value} {ess : List (List Int)} (hgd : GDp C.gd (· < w.heap.size) w) (hov : OpnV shs vals flv) (h1 : ess.length = (entsQ shs).length) (hlv : flv.length = (entsQ shs).length)
    (h2 : ∀ i sh, (entsQ shs)[i]? = some sh → ∃ v, flv[i]? = some v ∧ ArgLies w sh (ess.getD i []) v) (hcond : allP (conds ess)) :
    CallsL C.J g vals.toArray w fun e w' => ∃ v, e = .returned v ∧ Below w.heap.size w w' ∧ (T ess).now.Holds w' w.heap.size v := by
  have hch : ∀ i : Nat, ∃ bp : Nat × Nat, ∀ sh, (entsQ shs)[i]? = some sh → ∃ v, flv[i]? = some v ∧ sh.ok (ess.getD i []) ∧ (∀ (env' : Nat → Nat) (m' g : Nat), g < m' → env' g = bp.2 → (blkE g (ess.getD i []) sh).R env' m' (· < w.heap.size) w bp.1) ∧ ∀ (env' : Nat → Nat) (m' j : Nat), j + 1 < m' → env' j = bp.1 → env' (j + 1) = bp.2 → (argE j (ess.getD i []) sh).R env' m' v := fun i => by
    cases hi : (entsQ shs)[i]? with
    | none => exact ⟨(0, 0), fun sh h => by cases h⟩
    | some sh =>
      obtain ⟨v, hv, hl⟩ := h2 i sh hi
      obtain ⟨b, o, q1, q2, q3⟩ := pre_of hl
      exact ⟨(b, o), fun sh' h => by cases h; exact ⟨v, hv, q1, q2, q3⟩⟩
  let f : Nat → Nat × Nat := fun i => Classical.choose (hch i)
  have hf : ∀ i sh, (entsQ shs)[i]? = some sh → ∃ v, flv[i]? = some v ∧ sh.ok (ess.getD i []) ∧ (∀ (env' : Nat → Nat) (m' g : Nat), g < m' → env' g = (f i).2 → (blkE g (ess.getD i []) sh).R env' m' (· < w.heap.size) w (f i).1) ∧ ∀ (env' : Nat → Nat) (m' j : Nat), j + 1 < m' → env' j = (f i).1 → env' (j + 1) = (f i).2 → (argE j (ess.getD i []) sh).R env' m' v := fun i => Classical.choose_spec (hch i)
  let Ms : Nat → List Int := fun i => ess.getD i []
  have hd : dataE Ms 0 (entsQ shs) = ess := dataE_eq h1 fun j _ => by simp [Ms]
  have hok : ∀ {l : List SE} {i : Nat}, (∀ (j : Nat) (sh : SE), l[j]? = some sh → sh.ok (Ms (i + j))) → okE Ms i l := by
    intro l
    induction l with
    | nil => intro i _; trivial
    | cons sh l ih => intro i h; exact ⟨h 0 sh rfl, ih fun j sh' hj => by have := h (j + 1) sh' (by simpa using hj); rw [show i + 1 + j = i + (j + 1) by omega]; exact this⟩
  obtain ⟨o, ho, hs⟩ := hrun Ms (hok fun j sh hj => by obtain ⟨v, _, q, _⟩ := hf j sh hj; rw [Nat.zero_add]; exact q) (by rw [hd]; exact hcond)
  rw [← ho] at hs
  let es : List Nat := (List.range (2 * (entsQ shs).length)).map fun j => if j % 2 = 0 then (f (j / 2)).1 else (f (j / 2)).2
  have hes : ∀ i, i < (entsQ shs).length → es.getD (2 * i) 0 = (f i).1 ∧ es.getD (2 * i + 1) 0 = (f i).2 := fun i hi => by
    have a1 : 2 * i < 2 * (entsQ shs).length := by omega
    have a2 : 2 * i + 1 < 2 * (entsQ shs).length := by omega
    constructor
    · simp [es, a1]
    · have : (2 * i + 1) / 2 = i := by omega
      simp [es, a2, this]
  have hlenm : (memX C.gd (blksE C.gd.length Ms 0 (entsQ shs))).n = C.gd.length + 2 * (entsQ shs).length := by
    show C.gd.length + (blksE C.gd.length Ms 0 (entsQ shs)).length = _
    rw [blksE_len]
  have hmr : MR C (· < w.heap.size) w (envX C.gd es) (memX C.gd (blksE C.gd.length Ms 0 (entsQ shs))) w := by
    refine MR.focusE hgl hgd (fun b hb => hb) (fun j ab hj => ?_) (fun i j a b hi hj hne ha hb => ?_)
    · rcases blksE_get hj with ⟨p, sh, rfl, hsh, rfl⟩ | rfl
      · rw [Nat.zero_add]
        obtain ⟨v, _, _, q, _⟩ := hf p sh hsh
        have hp := (List.getElem?_eq_some_iff.1 hsh).1
        rw [(hes p hp).1]
        refine q _ _ _ ?_ ?_
        · rw [blksE_len]; omega
        · rw [show C.gd.length + 2 * p + 1 = C.gd.length + (2 * p + 1) by omega, envX_at, (hes p hp).2]
      · trivial
    · exfalso
      rcases blksE_get hi with ⟨p, sh, _, _, rfl⟩ | rfl
      · cases sh <;> cases ha
      · cases ha
  have hargs : All2 (AV.R (envX C.gd es) (memX C.gd (blksE C.gd.length Ms 0 (entsQ shs))).n) (argsE C.gd.length Ms 0 (entsQ shs)) flv := by
    refine all2_of_get (by rw [argsE_len, hlv]) fun i x hi => ?_
    obtain ⟨sh, hsh, rfl⟩ := argsE_get hi
    rw [Nat.zero_add]
    obtain ⟨v, hv, _, _, q⟩ := hf i sh hsh
    have hlt := (List.getElem?_eq_some_iff.1 hsh).1
    refine ⟨v, hv, q _ _ _ ?_ ?_ ?_⟩
    · rw [hlenm]; omega
    · rw [envX_at, (hes i hlt).1]
    · rw [show C.gd.length + 2 * i + 1 = C.gd.length + (2 * i + 1) by omega, envX_at, (hes i hlt).2]
  refine (callA_ends hC hfn hs hmr (groupQ_R hov hargs)).mono ?_
  rintro e w' ⟨v, he, r', memc, envc, hK, hc, hx, hR⟩
  rw [hd] at hK
  exact ⟨v, he, hc.below.below, RS.sat_holds hc (keep_sat hK) hR⟩
theorem fok_run {C : Cfg} (hC : COk C) {G : List (Nat × List SV)} (hG : C.gd = G) (hgl : C.gl = glFrom 0 G) {g : Nat} {fn : Func} (hfn : FnOk C.P g fn) (hb : fn.body.isSome = true) {shs : List SH} {conds : List (List Int) → List Cnd} {T : List (List Int) → RT} (n : Nat)
    (hrun : ∀ Ms : Nat → List Int, okE Ms 0 (entsQ shs) → allP (conds (dataE Ms 0 (entsQ shs))) → ∃ o, callA C true n fn (groupQ shs (argsE G.length Ms 0 (entsQ shs))) (memX G (blksE G.length Ms 0 (entsQ shs))) = o ∧ o.sat fun v m => (T (dataE Ms 0 (entsQ shs))).now.sat m v) : FOk C g (fsum shs conds T) := by
  subst hG
  refine ⟨⟨fn, hfn, hb⟩, fun args mem r cs hF hp B w0 w env vals hm ha => ?_⟩
  unfold fsum at hF
  split at hF
  · rename_i fl hop
    split at hF
    · rename_i ps ess hparse
      cases hF
      rw [allP_iff] at hp
      obtain ⟨flv, hov, hfl⟩ := openQ_R hop ha
      obtain ⟨h1, hlv, h2⟩ := parseEs_spec hm hparse hp.1 hfl
      exact (fok_core hC hgl hfn n hrun (fun p hp => ⟨hm.base _ (hm.gd p hp).1, (hm.gd p hp).2⟩) hov h1 hlv h2 hp.2).calls
    · cases hF
  · cases hF
end
inductive R2 where
  | bad (n : Nat)
  | need (p : Prop) (o : R2)
  | br (c : Bool) (t f : R2)
  | both (a b : R2)
  | leaf (r : RS) (ns js : List Nat)
  | lost
def viewS (m : Mem) : SV → Option (RC × Nat × List Nat)
  | .sq j g o n => match Nat.beq o 0, m.get j with
    | true, some (.seq t k L g') => match Nat.beq g g' with | true => some (.s t k L, n, [j]) | false => none
    | _, _ => none
  | .slice _ _ 0 0 => some (.e, 0, [])
  | .slice j o n c => match Nat.beq o 0 && Nat.beq n c, m.get j with
    | true, some (.cells t l) => match Nat.beq n l.length, kindOf l with
      | true, some k => match intsOf k l with | some L => some (.s t k L, L.length, [j]) | none => none
      | _, _ => none
    | _, _ => none
  | .li k n => some (.i k n, 0, [])
  | .si k n => some (.i k n, 0, [])
  | .lb b => some (.b b, 0, [])
  | .sb b => some (.b b, 0, [])
  | .e0 => some (.e, 0, [])
  | .raw (.slice none 0 0) => some (.e, 0, [])
  | _ => none
def viewSs (m : Mem) : List SV → Option (List RC × List Nat × List Nat)
  | [] => some ([], [], [])
  | v :: vs => match viewS m v, viewSs m vs with | some (c, n, j), some (cs, ns, js) => some (c :: cs, n :: ns, j ++ js) | _, _ => none
def viewP (m : Mem) : TV → Option (RP × List Nat × List Nat)
  | .one s => match viewS m s with | some (c, n, j) => some (.c c, [n], j) | none => none
  | .agg l => match viewSs m l with | some (cs, ns, js) => some (.g cs, ns, js) | none => none
def viewPs (m : Mem) : List TV → Option (List RP × List Nat × List Nat)
  | [] => some ([], [], [])
  | v :: vs => match viewP m v, viewPs m vs with | some (c, n, j), some (cs, ns, js) => some (c :: cs, n ++ ns, j ++ js) | _, _ => none
def viewA (m : Mem) : AV → R2
  | .one s => match viewS m s with | some (c, n, j) => .leaf (.p (.c c)) [n] j | none => .lost
  | .agg l => match viewSs m l with | some (cs, ns, js) => .leaf (.p (.g cs)) ns js | none => .lost
  | .tup l => match viewPs m l with | some (rs, ns, js) => .leaf (.t rs) ns js | none => .lost
def Out.view : Out → R2
  | .bad n => .bad n
  | .need p o => .need p o.view
  | .br c t f => .br c t.view f.view
  | .both a b => .both a.view b.view
  | .done v m => viewA m v
def R2.sat (K : RS → List Nat → List Nat → Prop) : R2 → Prop
  | .bad _ => False
  | .need p o => p ∧ o.sat K
  | .br c t f => (c = true → t.sat K) ∧ (c = false → f.sat K)
  | .both a b => a.sat K ∧ b.sat K
  | .leaf r ns js => K r ns js
  | .lost => False
def lenOk : RC → Nat → Prop
  | .s _ _ L, n => n = L.length
  | _, _ => True
def RS.met (r : RS) : RS → List Nat → List Nat → Prop := fun r' ns js => r' = r ∧ All2 lenOk r.cells ns ∧ js.Nodup
theorem viewS_sat {m : Mem} {v : SV} {x : RC} {n : Nat} {js : List Nat} (h : viewS m v = some (x, n, js)) (hl : lenOk x n) : x.sat m v js := by
  unfold viewS at h
  split at h
  · rename_i j g o n'
    split at h
    · rename_i t k L g' ho hg
      split at h
      · rename_i hgg
        have hgg := Nat.eq_of_beq_eq_true hgg
        have ho := Nat.eq_of_beq_eq_true ho
        subst hgg ho
        cases h
        exact .inl ⟨j, g, n, rfl, hg, hl, rfl⟩
      · cases h
    · cases h
  · cases h; exact ⟨.inr (.inr ⟨_, _, rfl⟩), rfl⟩
  · rename_i j o n' c
    split at h
    · rename_i t l ho hg
      split at h
      · rename_i k hn hk
        split at h
        · rename_i L hL
          simp only [Bool.and_eq_true] at ho
          have h1 := Nat.eq_of_beq_eq_true ho.1
          have h2 := Nat.eq_of_beq_eq_true ho.2
          have h3 := Nat.eq_of_beq_eq_true hn
          subst h1 h2
          cases h
          exact .inr ⟨_, _, l, rfl, hg, hL, h3, rfl⟩
        · cases h
      · cases h
    · cases h
  · cases h; exact ⟨rfl, rfl⟩
  · cases h; exact ⟨rfl, rfl⟩
  · cases h; exact ⟨rfl, rfl⟩
  · cases h; exact ⟨rfl, rfl⟩
  · cases h; exact ⟨.inl rfl, rfl⟩
  · cases h; exact ⟨.inr (.inl rfl), rfl⟩
  · cases h
theorem viewSs_sat {m : Mem} : ∀ {vs : List SV} {l : List RC} {ns js : List Nat}, viewSs m vs = some (l, ns, js) → l.length = vs.length ∧ ns.length = l.length ∧ (All2 lenOk l ns → satRC m l vs js)
  | [], l, ns, js, h => by cases h; exact ⟨rfl, rfl, fun _ => rfl⟩
  | v :: vs, l, ns, js, h => by
    simp only [viewSs] at h
    split at h
    · rename_i c n j cs ns' js' h1 h2
      cases h
      obtain ⟨q1, q2, q3⟩ := viewSs_sat h2
      exact ⟨by simp [q1], by simp [q2], fun hl => ⟨j, js', rfl, viewS_sat h1 hl.1, q3 hl.2⟩⟩
    · cases h
theorem satRC_app {m : Mem} : ∀ {l : List RC} {l' : List RC} {vs vs' : List SV} {js js' : List Nat}, satRC m l vs js → satRC m l' vs' js' → satRC m (l ++ l') (vs ++ vs') (js ++ js')
  | [], _, [], _, js, _, h, h' => by simp only [satRC] at h; subst h; exact h'
  | c :: cs, _, v :: vs, _, js, js', h, h' => by
    obtain ⟨a, b, rfl, h1, h2⟩ := h
    exact ⟨a, b ++ js', by simp, h1, satRC_app h2 h'⟩
  | [], _, _ :: _, _, _, _, h, _ => h.elim
  | _ :: _, _, [], _, _, _, h, _ => h.elim
theorem viewP_sat {m : Mem} {v : TV} {x : RP} {ns js : List Nat} (h : viewP m v = some (x, ns, js)) : ∃ svs, svs.length = x.cells.length ∧ ns.length = x.cells.length ∧ x.asmA svs v ∧ (All2 lenOk x.cells ns → satRC m x.cells svs js) := by
  cases v with
  | one s =>
    simp only [viewP] at h
    split at h
    · rename_i c n j h1
      cases h
      exact ⟨[s], rfl, rfl, ⟨s, rfl, rfl⟩, fun hl => ⟨js, [], by simp, viewS_sat h1 hl.1, rfl⟩⟩
    · cases h
  | agg l =>
    simp only [viewP] at h
    split at h
    · rename_i cs ns' js' h1
      cases h
      obtain ⟨q1, q2, q3⟩ := viewSs_sat h1
      exact ⟨l, q1.symm, q2, rfl, q3⟩
    · cases h
theorem viewPs_sat {m : Mem} : ∀ {vs : List TV} {l : List RP} {ns js : List Nat}, viewPs m vs = some (l, ns, js) → ∃ svs, asmAP l svs vs ∧ (All2 lenOk (l.flatMap RP.cells) ns → satRC m (l.flatMap RP.cells) svs js)
  | [], l, ns, js, h => by cases h; exact ⟨[], ⟨rfl, rfl⟩, fun _ => rfl⟩
  | v :: vs, l, ns, js, h => by
    simp only [viewPs] at h
    split at h
    · rename_i c n j cs ns' js' h1 h2
      cases h
      obtain ⟨s1, e1, e2, e3, e4⟩ := viewP_sat h1
      obtain ⟨s2, e5, e6⟩ := viewPs_sat h2
      refine ⟨s1 ++ s2, ⟨s1, s2, v, vs, rfl, rfl, e1, e3, e5⟩, fun hl => ?_⟩
      rw [List.flatMap_cons] at hl ⊢
      obtain ⟨p1, p2⟩ := all2_split e2.symm hl
      exact satRC_app (e4 p1) (e6 p2)
    · cases h
theorem view_sat {T : RS} : ∀ {o : Out}, o.view.sat T.met → o.sat fun v m => T.sat m v
  | .bad _, h => h
  | .need p o, h => ⟨h.1, view_sat h.2⟩
  | .br c t f, h => ⟨fun hc => view_sat (h.1 hc), fun hc => view_sat (h.2 hc)⟩
  | .both a b, h => ⟨view_sat h.1, view_sat h.2⟩
  | .done v m, h => by
    have h : (viewA m v).sat T.met := h
    show T.sat m v
    cases v with
    | one s =>
      simp only [viewA] at h
      split at h
      · rename_i c n j h1
        obtain ⟨e, hl, hn⟩ := h
        subst e
        exact ⟨[s], j, ⟨s, rfl, rfl⟩, ⟨j, [], by simp, viewS_sat h1 hl.1, rfl⟩, hn⟩
      · exact h.elim
    | agg l =>
      simp only [viewA] at h
      split at h
      · rename_i cs ns js h1
        obtain ⟨e, hl, hn⟩ := h
        subst e
        exact ⟨l, js, rfl, (viewSs_sat h1).2.2 hl, hn⟩
      · exact h.elim
    | tup vs =>
      simp only [viewA] at h
      split at h
      · rename_i rs ns js h1
        obtain ⟨e, hl, hn⟩ := h
        subst e
        obtain ⟨svs, e1, e2⟩ := viewPs_sat h1
        exact ⟨svs, js, ⟨vs, rfl, e1⟩, e2 hl, hn⟩
      · exact h.elim
end Go.Ax
