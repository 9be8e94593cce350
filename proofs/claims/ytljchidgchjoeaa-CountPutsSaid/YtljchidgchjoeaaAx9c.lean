/- The abstract executor is sound: a store under a symbolic condition, without a branch. -/
import Derived.Test.YtljchidgchjoeaaAx9b
namespace Go.Ax
open Go Go.RowKit

section
variable {C : Cfg} {B : Nat → Prop} {w0 w : World} {K : AV → Mem → Prop}

theorem putA_get_ne {tm : TM} {d : Option Tmp} {v : AV} {t : Tmp} (h : d ≠ some t) : (putA tm d v).get t = tm.get t := by
  cases d with
  | none => rfl
  | some d =>
    have hd : d ≠ t := fun e => h (by rw [e])
    simp only [putA, TM.set]
    split
    · simp only [TM.get]; rw [Tr.get_set_ne _ _ _ _ hd]
    · rfl

theorem putA_sz {tm : TM} {d : Option Tmp} {v : AV} : (putA tm d v).sz = tm.sz := by
  cases d with
  | none => rfl
  | some d => exact set_sz _ _ _

theorem putA_df {tm : TM} {d : Option Tmp} {v : AV} : (putA tm d v).df = tm.df := by
  cases d with
  | none => rfl
  | some d => exact set_df _ _ _

theorem evalOps_frame {ops : Array Oper} {n0 : Nat} {m0 : Mem} : ∀ {l : List Oper} {tm tx : TM} {ps : List Prop}, evalOps C ops n0 m0 l tm = some (ps, tx) → tx.sz = tm.sz ∧ tx.df = tm.df ∧ ∀ t, (∀ o ∈ l, o.dst ≠ some t) → tx.get t = tm.get t
  | [], tm, tx, ps, h => by cases h; exact ⟨rfl, rfl, fun _ _ => rfl⟩
  | o :: rest, tm, tx, ps, h => by
    simp only [evalOps] at h
    split at h
    · split at h
      · cases h
      · cases h
      · split at h
        · split at h
          · split at h
            · rename_i h'
              cases h
              obtain ⟨q1, q3, q2⟩ := evalOps_frame h'
              refine ⟨q1.trans putA_sz, q3.trans putA_df, fun t ht => ?_⟩
              rw [q2 t (fun o ho => ht o (List.mem_cons_of_mem _ ho)), putA_get_ne (ht o (List.mem_cons_self ..))]
            · cases h
          · cases h
        · cases h
    · cases h

theorem needs_intro {ps : List Prop} {o : Out} (h : allP ps) (ho : o.sat K) : (needs ps o).sat K := by
  induction ps with
  | nil => exact ho
  | cons p ps ih => exact ⟨h.1, ih h.2⟩

theorem allP_app {ps qs : List Prop} : allP (ps ++ qs) → allP ps ∧ allP qs := by
  induction ps with
  | nil => exact fun h => ⟨trivial, h⟩
  | cons p ps ih => exact fun h => ⟨⟨h.1, (ih h.2).1⟩, (ih h.2).2⟩

theorem evalOps_run {ops : Array Oper} {n0 : Nat} {m0 : Mem} {k : TM → Mem → Out} : ∀ {l : List Oper} {i : Nat} {tm tx : TM} {mem : Mem} {ps : List Prop}, evalOps C ops n0 m0 l tm = some (ps, tx) → allP ps → (k tx mem).sat K →
    (openRun C ops n0 m0 l i tm mem k).sat K
  | [], i, tm, tx, mem, ps, h, _, hk => by cases h; exact hk
  | o :: rest, i, tm, tx, mem, ps, h, hp, hk => by
    simp only [evalOps] at h
    split at h
    · rename_i hg hin
      split at h
      · cases h
      · cases h
      · rename_i hfine hpick
        split at h
        · rename_i qs v hpure
          split at h
          · rename_i hlt
            split at h
            · rename_i qs' tm' h'
              cases h
              obtain ⟨h1, h2⟩ := allP_app hp
              have ih := evalOps_run (i := i + 1) h' h2 hk
              simp only [openRun, hin, guarded, hg, hfine, hpick, hpure]
              exact needs_intro h1 ih
            · cases h
          · cases h
        · cases h
    · cases h

theorem anyAll_get : ∀ {l : List Oper} {tm : TM} (t : Tmp), (anyAll tm l).get t = .any ∨ ((∀ o ∈ l, o.dst ≠ some t) ∧ (anyAll tm l).get t = tm.get t) ∨ (anyAll tm l).get t = tm.get t ∧ ¬ t < tm.sz
  | [], tm, t => .inr (.inl ⟨(fun _ h => by cases h), rfl⟩)
  | o :: rest, tm, t => by
    rcases anyAll_get (l := rest) (tm := putA tm o.dst .any) t with h | ⟨h1, h2⟩ | ⟨h1, h2⟩
    · exact .inl h
    · by_cases hd : o.dst = some t
      · have : (putA tm o.dst .any).get t = .any ∨ ((putA tm o.dst .any).get t = tm.get t ∧ ¬ t < tm.sz) := by
          rw [hd]
          simp only [putA, TM.set]
          split
          · left
            simp only [TM.get]
            cases hq : (tm.t.set t .any).get t with
            | none => rfl
            | some y => exact Tr.get_set_eq _ _ _ _ hq
          · rename_i hb
            right
            refine ⟨rfl, fun hlt => ?_⟩
            have : Nat.blt t tm.sz = true := Nat.ble_eq_true_of_le hlt
            rw [this] at hb
            cases hb
        rcases this with h3 | ⟨h3, h4⟩
        · exact .inl (h2.trans h3)
        · exact .inr (.inr ⟨h2.trans h3, h4⟩)
      · refine .inr (.inl ⟨fun o' ho' => ?_, h2.trans (putA_get_ne hd)⟩)
        rcases List.mem_cons.1 ho' with rfl | ho'
        · exact hd
        · exact h1 o' ho'
    · rw [putA_sz] at h2
      by_cases hd : o.dst = some t
      · refine .inr (.inr ⟨h1.trans ?_, h2⟩)
        rw [hd]
        simp only [putA, TM.set]
        split
        · rename_i hb; exact absurd (Nat.le_of_ble_eq_true hb) h2
        · rfl
      · exact .inr (.inr ⟨h1.trans (putA_get_ne hd), h2⟩)

theorem anyAll_df : ∀ {l : List Oper} {tm : TM}, (anyAll tm l).df = tm.df
  | [], _ => rfl
  | _ :: rest, _ => (anyAll_df (l := rest)).trans putA_df

theorem anyAll_sz : ∀ {l : List Oper} {tm : TM}, (anyAll tm l).sz = tm.sz
  | [], _ => rfl
  | _ :: rest, _ => (anyAll_sz (l := rest)).trans putA_sz

theorem splice_set : ∀ {l : List SV} {o : Nat} {s : SV}, o < l.length → splice l o [s] = l.set o s
  | x :: l, 0, s, _ => by simp [splice]
  | x :: l, o + 1, s, h => by
    have := splice_set (l := l) (o := o) (s := s) (by simpa using h)
    simp only [splice, List.take_succ_cons, List.length_cons, List.length_nil, List.cons_append, List.set_cons_succ] at this ⊢
    rw [← this]
    simp [List.drop_succ_cons]

theorem all2_set {R : SV → Value → Prop} : ∀ {l : List SV} {vs : List Value} {o : Nat} {s s' : SV}, All2 R l vs → l[o]? = some s → (∀ v, R s v → R s' v) → All2 R (l.set o s') vs
  | x :: l, v :: vs, 0, s, s', h, hs, hi => by
    simp only [List.getElem?_cons_zero, Option.some.injEq] at hs
    subst hs
    exact ⟨hi _ h.1, h.2⟩
  | x :: l, v :: vs, o + 1, s, s', h, hs, hi => ⟨h.1, all2_set h.2 (by simpa using hs) hi⟩

theorem int_R {env : Nat → Nat} {m : Nat} {s : SV} {k : IntKind} {x : Int} {v : Value} (h : (AV.one s).int = .l k x ∨ (AV.one s).int = .s k x) : s.R env m v ↔ (SV.si k x).R env m v := by
  cases s <;> simp only [AV.int] at h
  · simp at h
  · rename_i k' n
    rcases h with h | h
    · simp only [AI.l.injEq] at h; obtain ⟨rfl, rfl⟩ := h; exact Iff.rfl
    · cases h
  · rename_i k' n
    rcases h with h | h
    · cases h
    · simp only [AI.s.injEq] at h; obtain ⟨rfl, rfl⟩ := h; exact Iff.rfl
  all_goals simp at h

theorem kEq_eq {a b : IntKind} (h : kEq a b = true) : a = b := by
  cases a <;> cases b <;> first | rfl | cases h

theorem allP_imp {t : Bool} : ∀ {ps : List Prop}, allP (ps.map fun p => t = true → p) → t = true → allP ps
  | [], _, _ => trivial
  | _ :: _, h, ht => ⟨h.1 ht, allP_imp h.2 ht⟩

/-- Slots that are forgotten. -/
theorem anyAll_R {env : Nat → Nat} {m : Nat} {l : List Oper} {tm tx : TM} {a : Act} (hsz : a.tmps.size = tm.sz) (hfr : ∀ t, (∀ o ∈ l, o.dst ≠ some t) → tx.get t = tm.get t)
    (h : ∀ t, (tx.get t).R env m (a.tmps.getD t undef)) (hb : ∀ t, ¬ t < tm.sz → (tm.get t).R env m undef) (t : Tmp) : ((anyAll tm l).get t).R env m (a.tmps.getD t undef) := by
  rcases anyAll_get (l := l) (tm := tm) t with h1 | ⟨h1, h2⟩ | ⟨h1, h2⟩
  · rw [h1]; exact AV.R_any
  · rw [h2, ← hfr t h1]; exact h t
  · rw [h1]
    have : a.tmps.getD t undef = undef := by
      have : ¬ t < a.tmps.size := by rw [hsz]; exact h2
      simp [this]
    rw [this]
    exact hb t h2

theorem MR.congr {env : Nat → Nat} {mem mem' : Mem} (h : MR C B w0 env mem w) (hn : mem'.n = mem.n)
    (hg : ∀ i ab', mem'.get i = some ab' → ∃ ab, mem.get i = some ab ∧ (ab.R env mem.n B w (env i) → ab'.R env mem.n B w (env i)) ∧ (ab'.wr = true → ab.wr = true)) : MR C B w0 env mem' w := by
  refine ⟨h.below, h.base, fun i ab hi => ?_, fun i ab hi => ?_, fun i j x y hi hj hij hx hy => ?_, fun p hp => ?_, h.gd⟩
  · obtain ⟨ab0, h1, _, _⟩ := hg i ab hi
    rw [hn]; exact h.lt i ab0 h1
  · obtain ⟨ab0, h1, h2, _⟩ := hg i ab hi
    rw [hn]; exact h2 (h.blk i ab0 h1)
  · obtain ⟨x0, h1, _, h3⟩ := hg i x hi
    obtain ⟨y0, h4, _, h6⟩ := hg j y hj
    exact h.sep i j x0 y0 h1 h4 hij (h3 hx) (h6 hy)
  · rw [hn]; exact h.gl p hp

theorem set_congr {env : Nat → Nat} {mem : Mem} {b : Nat} {tt : TypeId} {l l' : List SV} (h : MR C B w0 env mem w) (hb : mem.get b = some (.cells tt l)) (hi : ∀ vs : List Value, All2 (SV.R env mem.n) l vs → All2 (SV.R env mem.n) l' vs) :
    MR C B w0 env (mem.set b (.cells tt l')) w := by
  refine h.congr rfl fun i ab' hi' => ?_
  by_cases hib : i = b
  · subst hib
    have := Tr.get_set_eq _ _ _ _ hi'
    subst this
    exact ⟨_, hb, fun ⟨vs, h1, h2, h3⟩ => ⟨vs, h1, hi vs h2, h3⟩, fun _ => rfl⟩
  · simp only [Mem.get, Mem.set] at hi'
    rw [Tr.get_set_ne _ _ _ _ (Ne.symm hib)] at hi'
    exact ⟨ab', hi', fun h => h, fun h => h⟩

theorem Tr.get_set_self {α : Type} (t : Tr α) : ∀ (n : Nat) (a x : α), t.get n = some x → (t.set n a).get n = some a := by
  induction t with
  | leaf => intro n a x h; cases h
  | node v l r ihl ihr =>
    intro n a x h
    unfold Tr.set
    cases hn : Nat.beq n 0 with
    | true => simp only [Tr.get, hn]
    | false =>
      cases hb : Nat.beq (n % 2) 1 with
      | true => simp only [hn, hb, Tr.get] at h ⊢; exact ihl _ a x h
      | false => simp only [hn, hb, Tr.get] at h ⊢; exact ihr _ a x h

theorem merge_sound (hC : COk C) {t : Bool} {ops : Array Oper} {id : Nat} {tm tm' : TM} {mem mem' : Mem} {ps : List Prop} {env : Nat → Nat} {a : Act} {Q : Exit → Act → World → Prop} (h : mergeA C t ops tm mem = some (ps, tm', mem')) (hp : t = true → allP ps)
    (hr : Rel C B w0 env tm mem a w) (hk : ∀ env' a' w', Rel C B w0 env' tm' mem' a' w' → Ext env mem.n env' mem'.n → Q .normal a' w') :
    (t = true → wpJ C.J (.region id ops true) Q a w) ∧ (t = false → Q .normal a w) := by
  unfold mergeA at h
  split at h
  · rename_i n hh
    have hB := headOf_spec hh
    split at h
    · rename_i ps1 tx o he hd
      split at h
      · rename_i ty x v hog hod hop
        have main : ∀ (b off : Nat) (qs : List Prop) (r : AV) (MX : Mem) (k : IntKind) (xv : Int), ev C tx x = .one (.ptr b off) → storeA C.P mem ty (ev C tx x) (ev C tx v) = some (qs, r, MX) →
            ((ev C tx v).int = .l k xv ∨ (ev C tx v).int = .s k xv) →
            (match mem.get b with
              | some (.cells tt l) => match l[off]? with
                | some old => match (AV.one old).int with
                  | .l k' y | .s k' y => match kEq k k' with
                    | true => some (ps1 ++ qs, anyAll tm (ops.toList.take n), Mem.set mem b (.cells tt (l.set off (.si k (iteI t xv y)))))
                    | false => none
                  | .no => none
                | none => none
              | _ => none) = some (ps, tm', mem') → (t = true → wpJ C.J (.region id ops true) Q a w) ∧ (t = false → Q .normal a w) := by
          intro b off qs r MX k xv hx hst hv h
          split at h
          · rename_i tt l hb
            split at h
            · rename_i old hold
              have fin : ∀ (k' : IntKind) (y : Int), ((AV.one old).int = .l k' y ∨ (AV.one old).int = .s k' y) →
                  (match kEq k k' with
                    | true => some (ps1 ++ qs, anyAll tm (ops.toList.take n), Mem.set mem b (.cells tt (l.set off (.si k (iteI t xv y)))))
                    | false => none) = some (ps, tm', mem') → (t = true → wpJ C.J (.region id ops true) Q a w) ∧ (t = false → Q .normal a w) := by
                intro k' y hy h
                split at h
                · rename_i hkk
                  have := kEq_eq hkk
                  subst this
                  cases h
                  obtain ⟨hsx, hdx, hfr⟩ := evalOps_frame he
                  have hoob : ∀ (env : Nat → Nat) (m : Nat) u, ¬ u < tm.sz → (∀ t, (tm.get t).R env m (a.tmps.getD t undef)) → (tm.get u).R env m undef := fun env m u hu hall => by
                    have h1 := hall u
                    have : ¬ u < a.tmps.size := by rw [hr.size]; exact hu
                    simpa [this] using h1
                  have hlt : off < l.length := (List.getElem?_eq_some_iff.1 hold).1
                  have hbN : (mem : Mem).get b = some (.cells tt l) := hb
                  refine ⟨fun ht => ?_, fun ht => ?_⟩
                  · obtain ⟨hp1, hp2⟩ := allP_app (hp ht)
                    -- the store, carried out
                    have hMX : ∃ s, (ev C tx v).cellsA = some [s] ∧ MX = Mem.set mem b (.cells tt (l.set off s)) ∧ r = .tup [] ∧ qs = [] := by
                      unfold storeA at hst
                      rw [hx] at hst
                      split at hst
                      · rename_i bb oo cs sz hxx hcs hsz
                        cases hxx
                        split at hst
                        · cases hst
                        · rename_i hc
                          simp only [Bool.and_eq_true] at hc
                          rw [hbN] at hst
                          dsimp only at hst
                          split at hst
                          · cases hst
                            have hone : ∃ s, cs = [s] := by
                              rcases hq : ev C tx v with s | l' | l'
                              · rw [hq] at hcs
                                cases s <;> simp only [AV.cellsA] at hcs <;> first | (cases hcs; exact ⟨_, rfl⟩) | cases hcs
                              · rw [hq] at hv; rcases hv with hv | hv <;> simp [AV.int] at hv
                              · rw [hq] at hv; rcases hv with hv | hv <;> simp [AV.int] at hv
                            obtain ⟨s, rfl⟩ := hone
                            exact ⟨s, hcs, by rw [splice_set hlt], rfl, rfl⟩
                          · cases hst
                      · cases hst
                    obtain ⟨s, hcs, hMX, hrr, hqs⟩ := hMX
                    have hsv : ev C tx v = .one s := by
                      rcases hq : ev C tx v with s' | l' | l'
                      · rw [hq] at hcs
                        cases s' <;> simp only [AV.cellsA] at hcs <;> first | (cases hcs; rfl) | cases hcs
                      · rw [hq] at hv; rcases hv with hv | hv <;> simp [AV.int] at hv
                      · rw [hq] at hv; rcases hv with hv | hv <;> simp [AV.int] at hv
                    have hs : (AV.one s).int = .l k xv ∨ (AV.one s).int = .s k xv := by rw [← hsv]; exact hv
                    let k0 : AE → TM → Mem → Out := fun e t2 m2 => .need (e = .normal ∧ t2 = tx ∧ m2 = MX) (.done .any Mem.empty)
                    have hrun : (openRun C ops mem.n mem (ops.toList.take n) 0 tm mem fun tm mem => runOps C (fun _ _ _ _ _ => .bad 0) ops.toList (ops.toList.drop n) tm mem k0).sat (fun _ _ => True) := by
                      refine evalOps_run he hp1 ?_
                      rw [hd]
                      have hpk : pickB C o tx = none := by unfold pickB; rw [hop]
                      have hfk : forkO C o tx = none := by unfold forkO; rw [hop]
                      have hpu : pureOp C o tx mem = none := by
                        have h0 : pureOp0 C o tx mem = none := by unfold pureOp0; rw [hop]
                        unfold pureOp; rw [h0]; unfold strOp; rw [hop]
                      have hmo0 : memOp0 C o tx mem = some (qs, r, MX) := by unfold memOp0; rw [hop]; exact hst
                      have hmo : memOp C o tx mem = some (qs, r, MX) := by unfold memOp; rw [hmo0]
                      have hfi : opFine C tx o = true := by
                        unfold opFine
                        rw [hop]
                        split <;> rfl
                      simp only [runOps, plainOp, guarded, hog, hfi, hpk, hfk, forked, hpu, hmo, hod, putA]
                      rw [hqs]
                      exact ⟨⟨rfl, rfl, rfl⟩, trivial⟩
                    refine open_sound (d := 0) hC hB hr hrun ?_
                    intro tm2 mem2 env2 a2 w2 q1 q2 q3
                    refine runOps_sound hC (call := fun _ _ _ _ _ => .bad 0) (fun _ _ _ _ _ hh => False.elim hh) _ _ _ _ q1 B w0 env2 a2 w2 Q q2 ?_
                    intro e3 tm3 mem3 env3 a3 w3 p1 p2 p3
                    obtain ⟨⟨e0, e1, e2⟩, _⟩ := p1
                    subst e0; subst e1; subst e2
                    have p3' : Ext env mem.n env3 mem3.n := q3.trans p3
                    have hn3 : mem3.n = mem.n := by rw [hMX]; rfl
                    refine hk env3 a3 w3 ⟨(p2.size.trans hsx).trans anyAll_sz.symm, fun u => ?_, by have := p2.defers; rw [hdx, hn3] at this; rw [anyAll_df]; exact this, ?_⟩ (by rw [hn3] at p3'; exact p3')
                    · have := anyAll_R (env := env3) (m := mem3.n) (p2.size.trans hsx) hfr p2.tmp (fun u hu => AV.R_ext p3' (hoob env mem.n u hu hr.tmp)) u
                      rw [hn3] at this
                      exact this
                    · have hg3 : mem3.get b = some (.cells tt (l.set off s)) := by rw [hMX]; exact Tr.get_set_self _ _ _ _ hbN
                      have h4 := set_congr (l' := l.set off (.si k (iteI t xv y))) p2.mem hg3 (fun vs hvs => by
                        have := all2_set (o := off) (s := s) (s' := .si k (iteI t xv y)) hvs (by simp [hlt]) (fun v0 hv0 => by rw [ht]; exact (int_R hs).1 hv0)
                        rwa [List.set_set] at this)
                      refine h4.congr (by rw [hMX]; rfl) fun i ab' hi => ?_
                      by_cases hib : i = b
                      · subst hib
                        have e := Tr.get_set_eq _ _ _ _ hi
                        subst e
                        exact ⟨_, Tr.get_set_self _ _ _ _ hg3, fun h => h, fun h => h⟩
                      · refine ⟨ab', ?_, fun h => h, fun h => h⟩
                        simp only [Mem.get, Mem.set] at hi ⊢
                        rw [Tr.get_set_ne _ _ _ _ (Ne.symm hib)] at hi ⊢
                        rw [hMX]
                        simp only [Mem.set]
                        rw [Tr.get_set_ne _ _ _ _ (Ne.symm hib)]
                        exact hi
                  · have hx0 : Ext env mem.n env mem.n := Ext.refl _ _
                    have hw := hr.mem
                    refine hk env a w ⟨hr.size.trans anyAll_sz.symm, fun u => ?_, by rw [anyAll_df]; exact hr.defers, ?_⟩ hx0
                    · exact anyAll_R (env := env) (m := mem.n) hr.size (fun _ _ => rfl) (fun u => AV.R_ext hx0 (hr.tmp u)) (fun u hu => AV.R_ext hx0 (hoob env mem.n u hu hr.tmp)) u
                    · exact set_congr hw hbN (fun vs hvs => all2_set hvs hold (fun v0 hv0 => by rw [ht]; exact (int_R hy).1 hv0))
                · cases h
              split at h
              · rename_i k' y hy; exact fin k' y (.inl hy) h
              · rename_i k' y hy; exact fin k' y (.inr hy) h
              · cases h
            · cases h
          · cases h
        split at h
        · rename_i b off qs r MX k xv hx hst hv; exact main b off qs r MX k xv hx hst (.inl hv) h
        · rename_i b off qs r MX k xv hx hst hv; exact main b off qs r MX k xv hx hst (.inr hv) h
        · cases h
      · cases h
    · cases h
  · cases h

end
end Go.Ax
