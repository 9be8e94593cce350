/- Contracts of loops: round after round. -/
import Derived.Test.YtljchidgchjoeaaAx13
namespace Go.Ax
open Go Go.RowKit

/-- A run of a body that ends as P tells, whatever P. -/
def endAt (P : AE → TM → Mem → Prop) : AE → TM → Mem → Out := fun e tm mem => .need (P e tm mem) (.done .any Mem.empty)

theorem body_step {C : Cfg} (hC : COk C) {n : Nat} {body : Code} {tm : TM} {mem : Mem} {P : AE → TM → Mem → Prop} (h : (exec C n (.run body) tm mem (endAt P)).sat (fun _ _ => True))
    {B : Nat → Prop} {w0 : World} {env : Nat → Nat} {a : Act} {w : World} (hr : Rel C B w0 env tm mem a w) {Q : Exit → Act → World → Prop}
    (hk : ∀ e tm' mem' env' a' w', P e tm' mem' → Rel C B w0 env' tm' mem' a' w' → Ext env mem.n env' mem'.n → Q e.conc a' w') : wpJ C.J body Q a w :=
  exec_ok hC n (.run body) tm mem (endAt P) h B w0 env a w Q hr fun e tm' mem' env' a' w' q1 q2 q3 => hk e tm' mem' env' a' w' q1.1 q2 q3

/-- Less is known of the slots. -/
theorem Rel.less {C : Cfg} {B : Nat → Prop} {w0 w : World} {env : Nat → Nat} {tm tm' : TM} {mem : Mem} {a : Act} (h : Rel C B w0 env tm mem a w) (hs : tm'.sz = tm.sz) (hd : tm'.df = tm.df)
    (ht : ∀ t env m v, (tm.get t).R env m v → (tm'.get t).R env m v) : Rel C B w0 env tm' mem a w :=
  ⟨h.size.trans hs.symm, fun t => ht t _ _ _ (h.tmp t), hd ▸ h.defers, h.mem⟩

/-- The loops of some code, outer ones first. -/
def loopsOf : Code → List Code
  | .seq a b => loopsOf a ++ loopsOf b
  | .cond _ a b => loopsOf a ++ loopsOf b
  | .block _ a => loopsOf a
  | .loop a => a :: loopsOf a
  | .scope a => loopsOf a
  | _ => []
def loopAt (fn : Func) (i : Nat) : Code := match fn.body with | some c => (loopsOf c).getD i .skip | none => .skip

/-- A frame of some slots. -/
def slots (sz : Nat) : List (Nat × AV) → TM
  | [] => ⟨sz, Tr.mk 10, []⟩
  | p :: l => (slots sz l).set p.1 p.2

theorem slots_sz {sz : Nat} : ∀ {l : List (Nat × AV)}, (slots sz l).sz = sz
  | [] => rfl
  | _ :: _ => (set_sz _ _ _).trans slots_sz

theorem slots_df {sz : Nat} : ∀ {l : List (Nat × AV)}, (slots sz l).df = []
  | [] => rfl
  | _ :: _ => (set_df _ _ _).trans slots_df

theorem slots_R {sz : Nat} {env : Nat → Nat} {m : Nat} {t : Nat} {v : Value} : ∀ {l : List (Nat × AV)}, (∀ p ∈ l, p.1 = t → p.2.R env m v) → ((slots sz l).get t).R env m v
  | [], _ => by simp only [slots, TM.get]; rw [Tr.get_mk]; exact AV.R_any
  | p :: l, h => by
    simp only [slots]
    by_cases hp : p.1 = t
    · unfold TM.set
      split
      · simp only [TM.get]
        rw [hp]
        cases hq : ((slots sz l).t.set t p.2).get t with
        | none => exact AV.R_any
        | some y => rw [Tr.get_set_eq _ _ _ _ hq]; exact h p (List.mem_cons_self ..) hp
      · exact slots_R fun q hq => h q (List.mem_cons_of_mem _ hq)
    · rw [show ((slots sz l).set p.1 p.2).get t = (slots sz l).get t from by
        unfold TM.set
        split
        · simp only [TM.get]; rw [Tr.get_set_ne _ _ _ _ hp]
        · rfl]
      exact slots_R fun q hq => h q (List.mem_cons_of_mem _ hq)

/-- Of a state only some slots are kept: each with what is known of it. -/
theorem Rel.slots {C : Cfg} {B : Nat → Prop} {w0 w : World} {env : Nat → Nat} {tm : TM} {mem : Mem} {a : Act} (h : Rel C B w0 env tm mem a w) {sz : Nat} (hs : tm.sz = sz) (hd : tm.df = []) {l : List (Nat × AV)}
    (hl : ∀ p ∈ l, ∀ env m v, (tm.get p.1).R env m v → p.2.R env m v) : Rel C B w0 env (slots sz l) mem a w :=
  h.less (slots_sz.trans hs.symm) (slots_df.trans hd.symm) fun t _ _ _ hv => slots_R fun p hp ht => by subst ht; exact hl p hp _ _ _ hv

/-- A contract goes with the program, and its variables, and no more. -/
theorem MR.cast {C C' : Cfg} {B : Nat → Prop} {w0 w : World} {env : Nat → Nat} {mem : Mem} (hgl : C'.gl = C.gl) (hgd : C'.gd = C.gd) (h : MR C B w0 env mem w) : MR C' B w0 env mem w :=
  ⟨h.below, h.base, h.lt, h.blk, h.sep, by rw [hgl]; exact h.gl, by rw [hgd]; exact h.gd⟩
theorem Rel.cast {C C' : Cfg} {B : Nat → Prop} {w0 w : World} {env : Nat → Nat} {tm : TM} {mem : Mem} {a : Act} (hgl : C'.gl = C.gl) (hgd : C'.gd = C.gd) (h : Rel C B w0 env tm mem a w) : Rel C' B w0 env tm mem a w :=
  ⟨h.size, h.tmp, h.defers, h.mem.cast hgl hgd⟩
theorem LoopOk.cast {C C' : Cfg} {bd : Code} {F : TM → Mem → Option (List Prop × AE × TM × Mem)} (hP : C'.sig = C.sig) (hgl : C'.gl = C.gl) (hgd : C'.gd = C.gd) (h : LoopOk C bd F) : LoopOk C' bd F := by
  intro tm mem ps e tm' mem' hF hp B w0 env a w Q hr hk
  exact sig_wp hP (h tm mem ps e tm' mem' hF hp B w0 env a w Q (hr.cast hgl.symm hgd.symm) fun env' a' w' hr' hE => hk env' a' w' (hr'.cast hgl hgd) hE)

/-! ## A loop's own small state -/

def memX (gd : List (Nat × List SV)) (xs : List AB) : Mem := ⟨gd.length + xs.length, Tr.ofList (Tr.mk 14) 0 ((gd.map fun p => .ro p.2) ++ xs)⟩
def envX (gd : List (Nat × List SV)) (es : List Nat) (i : Nat) : Nat := match (gd[i]?).map (·.1) with | some g => g | none => es.getD (i - gd.length) 0

theorem envX_at {gd : List (Nat × List SV)} {es : List Nat} (j : Nat) : envX gd es (gd.length + j) = es.getD j 0 := by
  unfold envX
  rw [List.getElem?_eq_none (by omega)]
  simp

theorem MR.focusE {C : Cfg} {B : Nat → Prop} {w : World} (hgl : C.gl = glFrom 0 C.gd) (hgd : GDp C.gd B w) (hB : ∀ b, B b → b < w.heap.size) {xs : List AB} {es : List Nat}
    (hx : ∀ (j : Nat) (ab : AB), xs[j]? = some ab → ab.R (envX C.gd es) (C.gd.length + xs.length) B w (es.getD j 0))
    (hs : ∀ (i j : Nat) (a b : AB), xs[i]? = some a → xs[j]? = some b → i ≠ j → a.wr = true → b.wr = true → es.getD i 0 ≠ es.getD j 0) : MR C B w (envX C.gd es) (memX C.gd xs) w := by
  have hold : ∀ i ab, (memX C.gd xs).get i = some ab → (i < C.gd.length ∧ ∃ p, C.gd[i]? = some p ∧ ab = .ro p.2) ∨ (∃ j, i = C.gd.length + j ∧ xs[j]? = some ab) := by
    intro i ab hi
    rcases ofList_get _ _ _ _ _ hi with h | ⟨_, h⟩
    · rw [Tr.get_mk] at h; cases h
    · simp only [Nat.sub_zero] at h
      by_cases hl : i < C.gd.length
      · rw [List.getElem?_append_left (by simpa using hl), List.getElem?_map] at h
        obtain ⟨p, hp, rfl⟩ := Option.map_eq_some_iff.1 h
        exact .inl ⟨hl, p, hp, rfl⟩
      · rw [List.getElem?_append_right (by simpa using hl)] at h
        exact .inr ⟨i - C.gd.length, by omega, by simpa using h⟩
  refine ⟨Keep.refl _ _, hB, fun i ab hi => ?_, fun i ab hi => ?_, fun i j a b hi hj hne ha hb => ?_, fun p hp => ?_, hgd⟩
  · show i < C.gd.length + xs.length
    rcases hold i ab hi with ⟨h, _⟩ | ⟨j, rfl, h⟩
    · omega
    · have := (List.getElem?_eq_some_iff.1 h).1; omega
  · rcases hold i ab hi with ⟨_, p, hp, rfl⟩ | ⟨j, rfl, h⟩
    · obtain ⟨h1, vs, rest, t, fr, h2, h3⟩ := hgd p (List.mem_of_getElem? hp)
      have he : envX C.gd es i = p.1 := by unfold envX; rw [hp]; rfl
      rw [he]
      exact ⟨vs, rest, t, fr, h2, h3.imp fun _ _ => SV.R_ext ⟨Nat.zero_le _, fun _ hi => absurd hi (Nat.not_lt_zero _)⟩, h1⟩
    · rw [envX_at]; exact hx j ab h
  · rcases hold i a hi with ⟨_, p, _, rfl⟩ | ⟨i', rfl, h1⟩
    · cases ha
    · rcases hold j b hj with ⟨_, p, _, rfl⟩ | ⟨j', rfl, h2⟩
      · cases hb
      · rw [envX_at, envX_at]; exact hs i' j' a b h1 h2 (by omega) ha hb
  · rw [hgl] at hp
    obtain ⟨j, h1, q, h2, h3⟩ := mem_glFrom hp
    have hj : p.2 = j := by omega
    rw [hj]
    have hl := (List.getElem?_eq_some_iff.1 h2).1
    refine ⟨by unfold envX; rw [h2]; exact h3, ?_⟩
    show j < C.gd.length + xs.length
    omega

theorem MR.focus {C : Cfg} {B : Nat → Prop} {w : World} (hgl : C.gl = glFrom 0 C.gd) (hgd : GDp C.gd B w) (hB : ∀ b, B b → b < w.heap.size) {xs : List AB} {es : List Nat}
    (hx : ∀ (j : Nat) (ab : AB), xs[j]? = some ab → ∀ (env : Nat → Nat) (m : Nat), ab.R env m B w (es.getD j 0))
    (hs : ∀ (i j : Nat) (a b : AB), xs[i]? = some a → xs[j]? = some b → i ≠ j → a.wr = true → b.wr = true → es.getD i 0 ≠ es.getD j 0) : MR C B w (envX C.gd es) (memX C.gd xs) w :=
  MR.focusE hgl hgd hB (fun j ab hj => hx j ab hj _ _) hs

/-- Everything that is there is protected, but one block. -/
def but (w : World) (b : Nat) : Nat → Prop := fun k => k < w.heap.size ∧ k ≠ b

/-- One block alone was written. -/
theorem MR.unfocus {C : Cfg} {B : Nat → Prop} {w0 w w' : World} {env : Nat → Nat} {mem : Mem} (h : MR C B w0 env mem w) {p : Nat} {t : TypeId} {l : List SV} (hp : mem.get p = some (.cells t l)) (hk : Keep (but w (env p)) w w')
    {new : List SV} {vs : List Value} (hw : w'.heap[env p]? = some (.cells vs.toArray t (0, 0))) (ha : All2 (SV.R env mem.n) new vs) : MR C B w0 env (mem.set p (.cells t new)) w' := by
  have hb := h.blk p _ hp
  obtain ⟨vs0, hb1, _, hb3⟩ := hb
  have hBb : ∀ k, B k → but w (env p) k := fun k hk => ⟨h.base k hk, fun e => hb3 (e ▸ hk)⟩
  have hK : Keep B w w' := ⟨hk.grown, fun k hk' => hk.block k (hBb k hk')⟩
  have hget : ∀ i ab, (mem.set p (.cells t new)).get i = some ab → (i = p ∧ ab = .cells t new) ∨ (i ≠ p ∧ mem.get i = some ab) := fun i ab hi => by
    by_cases e : i = p
    · subst e; exact .inl ⟨rfl, Tr.get_set_eq _ _ _ _ hi⟩
    · simp only [Mem.get, Mem.set] at hi; rw [Tr.get_set_ne _ _ _ _ (Ne.symm e)] at hi; exact .inr ⟨e, hi⟩
  refine ⟨h.below.trans hK, fun b hb => Nat.lt_of_lt_of_le (h.base b hb) hk.grown.size, fun i ab hi => ?_, fun i ab hi => ?_, fun i j a b hi hj hne h1 h2 => ?_, h.gl, h.gd.below hK⟩
  · show i < mem.n
    rcases hget i ab hi with ⟨rfl, _⟩ | ⟨_, hi⟩
    · exact h.lt _ _ hp
    · exact h.lt _ _ hi
  · show ab.R env mem.n B w' (env i)
    rcases hget i ab hi with ⟨rfl, rfl⟩ | ⟨hne, hi⟩
    · exact ⟨vs, hw, ha, hb3⟩
    · have hold := h.blk i ab hi
      have key : env i ≠ env p → ∀ o, w.heap[env i]? = some o → w'.heap[env i]? = some o := fun hn o ho => by
        rw [hk.block (env i) ⟨(Array.getElem?_eq_some_iff.1 ho).1, hn⟩]; exact ho
      cases ab with
      | gone => trivial
      | cells t l => obtain ⟨vs, h1, h2, h3⟩ := hold; exact ⟨vs, key (h.sep i p _ _ hi hp hne rfl rfl) _ h1, h2, h3⟩
      | row t l => obtain ⟨vs, rest, h1, h2, h3⟩ := hold; exact ⟨vs, rest, key (h.sep i p _ _ hi hp hne rfl rfl) _ h1, h2, h3⟩
      | ro l => obtain ⟨vs, rest, t, fr, h1, h2, h3⟩ := hold; exact ⟨vs, rest, t, fr, key (fun e => hb3 (e ▸ h3)) _ h1, h2, h3⟩
      | seq t k L g => obtain ⟨rest, h1, h2⟩ := hold; exact ⟨rest, key (h.sep i p _ _ hi hp hne rfl rfl) _ h1, h2⟩
      | rseq k L g =>
        rcases hold with hold | ⟨front, rest, t, fr, h1, h2, h3⟩
        · exact .inl hold
        · exact .inr ⟨front, rest, t, fr, key (fun e => hb3 (e ▸ h3)) _ h1, h2, h3⟩
      | mp k kv es => obtain ⟨ms, c, h1, h2⟩ := hold; exact ⟨ms, c, key (h.sep i p _ _ hi hp hne rfl rfl) _ h1, h2⟩
      | fz t l => obtain ⟨vs, fr, h1, h2⟩ := hold; exact ⟨vs, fr, key (h.sep i p _ _ hi hp hne rfl rfl) _ h1, h2⟩
      | ob x => obtain ⟨o, h1, h2⟩ := hold; exact ⟨o, key (h.sep i p _ _ hi hp hne rfl rfl) _ h1, h2⟩
  · have old : ∀ i ab, (mem.set p (.cells t new)).get i = some ab → ab.wr = true → ∃ c, mem.get i = some c ∧ c.wr = true := fun i ab hi hw => by
      rcases hget i ab hi with ⟨rfl, rfl⟩ | ⟨_, hi⟩
      · exact ⟨_, hp, rfl⟩
      · exact ⟨ab, hi, hw⟩
    obtain ⟨a', ha', hwa⟩ := old i a hi h1
    obtain ⟨b', hb', hwb⟩ := old j b hj h2
    exact h.sep i j a' b' ha' hb' hne hwa hwb

/-- A slot's own value, unless nothing is known of it. -/
theorem raw_R {env : Nat → Nat} {m : Nat} {s : SV} {v : Value} (h : s.R env m v) (hd : s ≠ .any) {env' : Nat → Nat} {m' : Nat} : (SV.raw v).R env' m' v := ⟨SV.oneCell_of_R h hd, rfl⟩

theorem again_step {C : Cfg} (hC : COk C) {n : Nat} {body : Code} {tm : TM} {mem : Mem} {P : AE → TM → Mem → Prop} (h : (exec C n (.again body) tm mem (endAt P)).sat (fun _ _ => True))
    {B : Nat → Prop} {w0 : World} {env : Nat → Nat} {a : Act} {w : World} (hr : Rel C B w0 env tm mem a w) {Q : Exit → Act → World → Prop}
    (hk : ∀ e tm' mem' env' a' w', P e tm' mem' → Rel C B w0 env' tm' mem' a' w' → Ext env mem.n env' mem'.n → Q e.conc a' w') : wpJ C.J (.loop body) Q a w :=
  wpJ_loop_in (exec_ok hC n (.again body) tm mem (endAt P) h B w0 env a w Q hr fun e tm' mem' env' a' w' q1 q2 q3 => hk e tm' mem' env' a' w' q1.1 q2 q3)

end Go.Ax
