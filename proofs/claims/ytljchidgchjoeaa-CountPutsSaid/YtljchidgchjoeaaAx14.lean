/- The abstract executor: summaries of functions that take slices of numbers, and make some. -/
import Derived.Test.YtljchidgchjoeaaLp
namespace Go.Ax
open Go Go.RowKit

/-- An entry of the arguments: a number, an array (a struct) of numbers, a slice of numbers, a truth value. -/
inductive SE where
  | w (k : IntKind)
  | l (k : IntKind) (n : Nat)
  | s (k : IntKind)
  | b
/-- An argument: an entry, or a struct of some. -/
inductive SH where
  | one (e : SE)
  | grp (l : List SE)
def SH.ents : SH → List SE
  | .one e => [e]
  | .grp l => l
def entsQ (shs : List SH) : List SE := shs.flatMap SH.ents

def parseE (mem : Mem) : SE → AV → Option (List Prop × List Int)
  | .w k, x => match x.num with
    | some (k', n) => if kEq k k' then some ([], [n]) else none
    | none => none
  | .l k n, .agg l => match intsOf k l with
    | some es => if Nat.beq es.length n then some ([], es) else none
    | none => none
  | .s k, x => match srcQ mem k x with
    | some (ps, k', M) => if kEq k k' then some (ps, M) else none
    | none => none
  | .b, x => match x.bool? with
    | some (_, c) => some ([], [iteI c 1 0])
    | none => none
  | _, _ => none
def parseEs (mem : Mem) : List SE → List AV → Option (List Prop × List (List Int))
  | [], [] => some ([], [])
  | sh :: shs, x :: xs => match parseE mem sh x, parseEs mem shs xs with | some (ps, es), some (qs, ess) => some (ps ++ qs, es :: ess) | _, _ => none
  | _, _ => none

def SH.parts : SH → AV → Option (List AV)
  | .one _, x => some [x]
  | .grp l, .agg cs => match Nat.beq cs.length l.length with | true => some (cs.map .one) | false => none
  | _, _ => none
def openQ : List SH → List AV → Option (List AV)
  | [], [] => some []
  | sh :: shs, x :: xs => match sh.parts x, openQ shs xs with | some a, some b => some (a ++ b) | _, _ => none
  | _, _ => none
def AV.cell1 : AV → SV
  | .one s => s
  | _ => .any
def groupQ : List SH → List AV → List AV
  | [], _ => []
  | .one _ :: shs, xs => xs.headD .any :: groupQ shs (xs.drop 1)
  | .grp l :: shs, xs => .agg ((xs.take l.length).map AV.cell1) :: groupQ shs (xs.drop l.length)

def fsum (shs : List SH) (conds : List (List Int) → List Prop) (T : List (List Int) → RT) : List AV → Mem → Option (List Prop × RT) := fun args mem =>
  match openQ shs args with
  | some fl => match parseEs mem (entsQ shs) fl with
    | some (ps, ess) => some (ps ++ conds ess, T ess)
    | none => none
  | none => none

/-! ## The callee's own state -/

def SE.ok : SE → List Int → Prop
  | .w k, es => es.length = 1 ∧ ∀ x ∈ es, okI k x
  | .l k n, es => es.length = n ∧ ∀ x ∈ es, okI k x
  | .s k, es => es.length ≤ 9223372036854775807 ∧ ∀ x ∈ es, okI k x
  | .b, es => es = [0] ∨ es = [1]
def argE (b : Nat) (M : List Int) : SE → AV
  | .w k => .one (.si k (M.getD 0 0))
  | .l k n => .agg ((tab n fun i => M.getD i 0).map (.si k))
  | .s _ => .one (.slr b (b + 1) 0 M.length)
  | .b => .one (.sb (M.getD 0 0 != 0))
def blkE (g : Nat) (M : List Int) : SE → AB
  | .s k => .rseq k M g
  | _ => .gone
def argsE (b : Nat) (Ms : Nat → List Int) : Nat → List SE → List AV
  | _, [] => []
  | i, sh :: shs => argE (b + 2 * i) (Ms i) sh :: argsE b Ms (i + 1) shs
def blksE (b : Nat) (Ms : Nat → List Int) : Nat → List SE → List AB
  | _, [] => []
  | i, sh :: shs => blkE (b + 2 * i + 1) (Ms i) sh :: .gone :: blksE b Ms (i + 1) shs
def dataE (Ms : Nat → List Int) : Nat → List SE → List (List Int)
  | _, [] => []
  | i, _ :: shs => Ms i :: dataE Ms (i + 1) shs
def okE (Ms : Nat → List Int) : Nat → List SE → Prop
  | _, [] => True
  | i, sh :: shs => sh.ok (Ms i) ∧ okE Ms (i + 1) shs

/-- What a run's result has to be. -/
def RC.sat (mem : Mem) : RC → SV → List Nat → Prop
  | .i k x, v, js => v.sym = .si k x ∧ js = []
  | .b x, v, js => v.sym = .sb x ∧ js = []
  | .s t k L, v, js => (∃ j g n, v = .sq j g 0 n ∧ mem.get j = some (.seq t k L g) ∧ n = L.length ∧ js = [j]) ∨ (∃ j n l, v = .slice j 0 n n ∧ mem.get j = some (.cells t l) ∧ intsOf k l = some L ∧ n = l.length ∧ js = [j])
  | .e, v, js => (v = .e0 ∨ v = .raw (.slice none 0 0) ∨ ∃ j o, v = .slice j o 0 0) ∧ js = []
def satRC (mem : Mem) : List RC → List SV → List Nat → Prop
  | [], [], js => js = []
  | r :: rs, v :: vs, js => ∃ a b, js = a ++ b ∧ r.sat mem v a ∧ satRC mem rs vs b
  | _, _, _ => False
def RP.asmA : RP → List SV → TV → Prop
  | .c _, vs, v => ∃ s, vs = [s] ∧ v = .one s
  | .g _, vs, v => v = .agg vs
def asmAP : List RP → List SV → List TV → Prop
  | [], vs, ps => vs = [] ∧ ps = []
  | r :: rs, vs, ps => ∃ a b p qs, vs = a ++ b ∧ ps = p :: qs ∧ a.length = r.cells.length ∧ r.asmA a p ∧ asmAP rs b qs
def RS.asmA : RS → List SV → AV → Prop
  | .p (.c _), vs, v => ∃ s, vs = [s] ∧ v = .one s
  | .p (.g _), vs, v => v = .agg vs
  | .t l, vs, v => ∃ ps, v = .tup ps ∧ asmAP l vs ps
def RS.sat (mem : Mem) (r : RS) (v : AV) : Prop := ∃ vs js, r.asmA vs v ∧ satRC mem r.cells vs js ∧ js.Nodup

section
variable {C : Cfg} {B : Nat → Prop} {w0 w : World} {env : Nat → Nat} {mem : Mem} {P : Program}

/-- What is told of an argument, and its value. -/
def ArgLies (w : World) : SE → List Int → Value → Prop
  | .w k, es, v => ∃ n, es = [n] ∧ v = .int k n ∧ okI k n
  | .l k n, es, v => es.length = n ∧ v = .agg (es.map (Value.int k)).toArray ∧ ∀ x ∈ es, okI k x
  | .s k, es, v => Lies w v k es
  | .b, es, v => ∃ c, v = .bool c ∧ es = [iteI c 1 0]
theorem parseE_spec {sh : SE} {x : AV} {ps : List Prop} {es : List Int} {v : Value} (hm : MR C B w0 env mem w) (h : parseE mem sh x = some (ps, es)) (hp : allP ps) (hx : x.R env mem.n v) : ArgLies w sh es v := by
  cases sh with
  | w k =>
    simp only [parseE] at h
    split at h
    · rename_i k' n hn
      split at h
      · rename_i hk
        have hk := kEq_of hk
        subst hk
        cases h
        obtain ⟨h1, h2⟩ := num_val hn hx
        exact ⟨n, rfl, h1, h2⟩
      · cases h
    · cases h
  | l k n =>
    cases x with
    | agg l =>
      simp only [parseE] at h
      split at h
      · rename_i es' he
        split at h
        · rename_i hn
          cases h
          obtain ⟨vs, rfl, hR⟩ := hx
          obtain ⟨e1, e2⟩ := intsOf_R he hR
          exact ⟨Nat.eq_of_beq_eq_true hn, by rw [e1], e2⟩
        · cases h
      · cases h
    | one s => cases h
    | tup l => cases h
  | s k =>
    have h : (match srcQ mem k x with | some (ps, k', M) => if kEq k k' then some (ps, M) else none | none => none) = some (ps, es) := by cases x <;> exact h
    split at h
    · rename_i ps' k' M hs
      split at h
      · rename_i hk
        have hk := kEq_of hk
        subst hk
        cases h
        exact srcQ_lies hm hs hp hx
      · cases h
    · cases h
  | b =>
    have h : (match x.bool? with | some (_, c) => some (([] : List Prop), [iteI c 1 0]) | none => none) = some (ps, es) := by cases x <;> exact h
    split at h
    · rename_i p c hb
      cases h
      exact ⟨c, bool?_val hb hx, rfl⟩
    · cases h
theorem parseEs_spec (hm : MR C B w0 env mem w) : ∀ {shs : List SE} {args : List AV} {ps : List Prop} {ess : List (List Int)} {vals : List Value}, parseEs mem shs args = some (ps, ess) → allP ps → All2 (AV.R env mem.n) args vals →
    ess.length = shs.length ∧ vals.length = shs.length ∧ ∀ i sh, shs[i]? = some sh → ∃ v, vals[i]? = some v ∧ ArgLies w sh (ess.getD i []) v
  | [], [], ps, ess, vals, h, _, ha => by
    cases h
    cases vals with
    | nil => exact ⟨rfl, rfl, fun i sh hi => by cases hi⟩
    | cons _ _ => exact ha.elim
  | [], _ :: _, _, _, _, h, _, _ => by cases h
  | _ :: _, [], _, _, _, h, _, _ => by cases h
  | sh :: shs, x :: xs, ps, ess, vals, h, hp, ha => by
    simp only [parseEs] at h
    split at h
    · rename_i ps1 es1 ps2 ess2 h1 h2
      cases h
      rw [allP_iff] at hp
      cases vals with
      | nil => exact ha.elim
      | cons v vals =>
        have q1 := parseE_spec hm h1 hp.1 ha.1
        obtain ⟨q2, q4, q3⟩ := parseEs_spec hm h2 hp.2 ha.2
        refine ⟨by simp [q2], by simp [q4], fun i sh' hi => ?_⟩
        cases i with
        | zero => simp at hi; subst hi; exact ⟨v, rfl, q1⟩
        | succ i => simpa using q3 i sh' (by simpa using hi)
    · cases h

theorem argsE_get {b : Nat} {Ms : Nat → List Int} : ∀ {shs : List SE} {i j : Nat} {x : AV}, (argsE b Ms i shs)[j]? = some x → ∃ sh, shs[j]? = some sh ∧ x = argE (b + 2 * (i + j)) (Ms (i + j)) sh
  | [], _, _, _, h => by cases h
  | sh :: shs, i, j, x, h => by
    cases j with
    | zero => simp only [argsE, List.getElem?_cons_zero, Option.some.injEq] at h; exact ⟨sh, rfl, h.symm⟩
    | succ j =>
      simp only [argsE, List.getElem?_cons_succ] at h
      obtain ⟨sh', h1, h2⟩ := argsE_get h
      exact ⟨sh', by simpa using h1, by rw [h2, show i + 1 + j = i + (j + 1) by omega]⟩
theorem blksE_get {b : Nat} {Ms : Nat → List Int} : ∀ {shs : List SE} {i j : Nat} {x : AB}, (blksE b Ms i shs)[j]? = some x → (∃ p sh, j = 2 * p ∧ shs[p]? = some sh ∧ x = blkE (b + 2 * (i + p) + 1) (Ms (i + p)) sh) ∨ x = .gone
  | [], _, _, _, h => by cases h
  | sh :: shs, i, j, x, h => by
    match j, h with
    | 0, h => simp only [blksE, List.getElem?_cons_zero, Option.some.injEq] at h; exact .inl ⟨0, sh, rfl, rfl, h.symm⟩
    | 1, h => simp only [blksE, List.getElem?_cons_succ, List.getElem?_cons_zero, Option.some.injEq] at h; exact .inr h.symm
    | j + 2, h =>
      simp only [blksE, List.getElem?_cons_succ] at h
      rcases blksE_get h with ⟨p, sh', h1, h2, h3⟩ | h
      · exact .inl ⟨p + 1, sh', by omega, by simpa using h2, by rw [h3, show i + 1 + p = i + (p + 1) by omega]⟩
      · exact .inr h
theorem argsE_len {b : Nat} {Ms : Nat → List Int} : ∀ {shs : List SE} {i : Nat}, (argsE b Ms i shs).length = shs.length
  | [], _ => rfl
  | _ :: shs, i => by simp [argsE, argsE_len (shs := shs) (i := i + 1)]
theorem blksE_len {b : Nat} {Ms : Nat → List Int} : ∀ {shs : List SE} {i : Nat}, (blksE b Ms i shs).length = 2 * shs.length
  | [], _ => rfl
  | _ :: shs, i => by simp [blksE, blksE_len (shs := shs) (i := i + 1)]; omega
theorem all2_of_get {α β : Type} {R : α → β → Prop} : ∀ {l : List α} {m : List β}, l.length = m.length → (∀ (i : Nat) (a : α), l[i]? = some a → ∃ b, m[i]? = some b ∧ R a b) → All2 R l m
  | [], [], _, _ => trivial
  | a :: l, b :: m, hl, h => by
    refine ⟨?_, all2_of_get (by simpa using hl) fun i x hi => ?_⟩
    · obtain ⟨b', h1, h2⟩ := h 0 a rfl
      cases h1; exact h2
    · obtain ⟨b', h1, h2⟩ := h (i + 1) x (by simpa using hi)
      exact ⟨b', by simpa using h1, h2⟩
  | [], _ :: _, hl, _ => by cases hl
  | _ :: _, [], hl, _ => by cases hl
theorem dataE_eq {Ms : Nat → List Int} : ∀ {shs : List SE} {i : Nat} {ess : List (List Int)}, ess.length = shs.length → (∀ j, j < ess.length → Ms (i + j) = ess.getD j []) → dataE Ms i shs = ess
  | [], _, [], _, _ => rfl
  | [], _, _ :: _, h, _ => by cases h
  | _ :: _, _, [], h, _ => by cases h
  | sh :: shs, i, es :: ess, h, he => by
    simp only [dataE]
    have h0 := he 0 (by simp)
    simp only [Nat.add_zero, List.getD_cons_zero] at h0
    rw [h0, dataE_eq (i := i + 1) (ess := ess) (by simpa using h) fun j hj => by
      have := he (j + 1) (by simpa using hj)
      rw [show i + 1 + j = i + (j + 1) by omega, this]; simp]

/-- Where an argument's block lies. -/
theorem pre_of {sh : SE} {es : List Int} {v : Value} (h : ArgLies w sh es v) : ∃ (b o : Nat), sh.ok es ∧
    (∀ (env' : Nat → Nat) (m' g : Nat), g < m' → env' g = o → (blkE g es sh).R env' m' (· < w.heap.size) w b) ∧ ∀ (env' : Nat → Nat) (m' j : Nat), j + 1 < m' → env' j = b → env' (j + 1) = o → (argE j es sh).R env' m' v := by
  cases sh with
  | w k =>
    obtain ⟨n, rfl, rfl, hk⟩ := h
    exact ⟨0, 0, ⟨rfl, by simpa using hk⟩, fun _ _ _ _ _ => trivial, fun _ _ _ _ _ _ => ⟨hk, rfl⟩⟩
  | l k n =>
    obtain ⟨h1, rfl, h2⟩ := h
    refine ⟨0, 0, ⟨h1, h2⟩, fun _ _ _ _ _ => trivial, fun _ _ _ _ _ _ => ⟨_, rfl, ?_⟩⟩
    rw [show (tab n fun i => es.getD i 0) = es from tab_self h1]
    exact All2.both _ _ es fun e he => ⟨h2 e he, rfl⟩
  | s k =>
    obtain ⟨p, c, rfl, h1, h2, h3, b, o, h5⟩ := h
    refine ⟨b, o, ⟨by omega, h3⟩, fun env' m' g hg he => ?_, fun env' m' j hj he he2 => ⟨⟨by omega, hj⟩, p, c, h1, h2, rfl, ?_⟩⟩
    · rcases h5 with h5 | ⟨_, front, rest, t, fr, hf, hh⟩
      · exact .inl h5
      · exact .inr ⟨front, rest, t, fr, hh, ⟨hf.trans he.symm, hg, h3⟩, (Array.getElem?_eq_some_iff.1 hh).1⟩
    · rcases h5 with rfl | ⟨rfl, _⟩
      · exact .inl rfl
      · exact .inr (by rw [he, he2, Nat.add_zero])
  | b =>
    obtain ⟨c, rfl, rfl⟩ := h
    refine ⟨0, 0, ?_, fun _ _ _ _ _ => trivial, fun _ _ _ _ _ _ => ?_⟩
    · cases c
      · exact .inl rfl
      · exact .inr rfl
    · cases c <;> exact ⟨trivial, rfl⟩

/-! ## Arguments that are structs -/

def OpnV : List SH → List Value → List Value → Prop
  | [], [], fl => fl = []
  | .one _ :: shs, v :: vs, fl => ∃ rest, fl = v :: rest ∧ OpnV shs vs rest
  | .grp l :: shs, v :: vs, fl => ∃ a rest, fl = a ++ rest ∧ a.length = l.length ∧ v = .agg a.toArray ∧ OpnV shs vs rest
  | _, _, _ => False
theorem all2_one {N : Nat} : ∀ {l : List SV} {vs : List Value}, All2 (SV.R env N) l vs → All2 (AV.R env N) (l.map .one) vs
  | [], [], _ => trivial
  | _ :: _, _ :: _, h => ⟨h.1, all2_one h.2⟩
  | [], _ :: _, h => h.elim
  | _ :: _, [], h => h.elim
theorem all2_cell {N : Nat} : ∀ {l : List AV} {vs : List Value}, All2 (AV.R env N) l vs → All2 (SV.R env N) (l.map AV.cell1) vs
  | [], [], _ => trivial
  | x :: _, _ :: _, h => ⟨by cases x with
      | one s => exact h.1
      | agg l => trivial
      | tup l => trivial, all2_cell h.2⟩
  | [], _ :: _, h => h.elim
  | _ :: _, [], h => h.elim
theorem openQ_R : ∀ {shs : List SH} {args fl : List AV} {vals : List Value}, openQ shs args = some fl → All2 (AV.R env mem.n) args vals → ∃ flv, OpnV shs vals flv ∧ All2 (AV.R env mem.n) fl flv
  | [], [], _, [], h, _ => by cases h; exact ⟨[], rfl, trivial⟩
  | [], [], _, _ :: _, _, h => h.elim
  | [], _ :: _, _, _, h, _ => by cases h
  | _ :: _, [], _, _, h, _ => by cases h
  | _ :: _, _ :: _, _, [], _, h => h.elim
  | sh :: shs, x :: xs, fl, v :: vs, h, ha => by
    simp only [openQ] at h
    split at h
    · rename_i a b h1 h2
      cases h
      obtain ⟨rest, q1, q2⟩ := openQ_R h2 ha.2
      cases sh with
      | one e => cases h1; exact ⟨v :: rest, ⟨rest, rfl, q1⟩, ha.1, q2⟩
      | grp l =>
        cases x with
        | agg cs =>
          simp only [SH.parts] at h1
          split at h1
          · rename_i hl
            cases h1
            obtain ⟨ws, rfl, hR⟩ := ha.1
            exact ⟨ws ++ rest, ⟨ws, rest, rfl, by rw [← hR.length]; exact Nat.eq_of_beq_eq_true hl, rfl, q1⟩, All2.append (all2_one hR) q2⟩
          · cases h1
        | one s => cases h1
        | tup l => cases h1
    · cases h
theorem groupQ_R {N : Nat} : ∀ {shs : List SH} {fl : List AV} {vals flv : List Value}, OpnV shs vals flv → All2 (AV.R env N) fl flv → All2 (AV.R env N) (groupQ shs fl) vals
  | [], _, [], _, _, _ => trivial
  | [], _, _ :: _, _, h, _ => h.elim
  | sh :: _, _, [], _, h, _ => by
    cases sh <;> exact False.elim h
  | .one e :: shs, fl, v :: vs, flv, h, ha => by
    obtain ⟨rest, rfl, h⟩ := h
    cases fl with
    | nil => exact ha.elim
    | cons x fl => exact ⟨ha.1, groupQ_R h ha.2⟩
  | .grp l :: shs, fl, v :: vs, flv, h, ha => by
    obtain ⟨a, rest, rfl, hl, rfl, h⟩ := h
    have hlen := ha.length
    have e : fl = fl.take l.length ++ fl.drop l.length := (List.take_append_drop _ _).symm
    rw [e] at ha
    obtain ⟨q1, q2⟩ := all2_split (by simp at hlen ⊢; omega) ha
    exact ⟨⟨a, rfl, all2_cell q1⟩, groupQ_R h q2⟩

/-! ## What a call leaves -/

theorem satRC_holds {w' : World} (hc : MR C (· < w.heap.size) w env mem w') : ∀ {l : List RC} {svs : List SV} {js : List Nat} {vs : List Value}, satRC mem l svs js → All2 (SV.R env mem.n) svs vs →
    holdsRC w' w.heap.size l vs (js.map env) ∧ ∀ j ∈ js, ∃ ab, mem.get j = some ab ∧ ab.wr = true
  | [], [], js, [], h, _ => by
    simp only [satRC] at h; subst h
    exact ⟨rfl, fun j hj => by cases hj⟩
  | [], [], _, _ :: _, _, h => h.elim
  | [], _ :: _, _, _, h, _ => h.elim
  | _ :: _, [], _, _, h, _ => h.elim
  | _ :: _, _ :: _, _, [], _, h => h.elim
  | c :: cs, s :: svs, js, v :: vs, h, ha => by
    obtain ⟨a, b, rfl, h1, h2⟩ := h
    obtain ⟨q1, q2⟩ := satRC_holds hc h2 ha.2
    have one : c.holds w' w.heap.size v (a.map env) ∧ ∀ j ∈ a, ∃ ab, mem.get j = some ab ∧ ab.wr = true := by
      cases c with
      | i k x =>
        obtain ⟨h1, rfl⟩ := h1
        have hR := SV.sym_R ha.1
        rw [h1] at hR
        exact ⟨⟨hR.2, hR.1, rfl⟩, fun j hj => by cases hj⟩
      | b x =>
        obtain ⟨h1, rfl⟩ := h1
        have hR := SV.sym_R ha.1
        rw [h1] at hR
        exact ⟨⟨hR.2, rfl⟩, fun j hj => by cases hj⟩
      | e =>
        obtain ⟨h1, rfl⟩ := h1
        refine ⟨⟨?_, rfl⟩, fun j hj => by cases hj⟩
        rcases h1 with rfl | rfl | ⟨j, o, rfl⟩
        · exact ha.1.2
        · exact ⟨none, ha.1.2⟩
        · exact ⟨_, ha.1.2⟩
      | s t k L =>
        rcases h1 with ⟨j, g, n, rfl, hj, rfl, rfl⟩ | ⟨j, n, l, rfl, hj, hl, rfl, rfl⟩
        · obtain ⟨_, o', ho, hg1, hg2, rfl⟩ := ha.1
          obtain ⟨rest, hh, hl, hgm, hok, hB⟩ := hc.blk j _ hj
          refine ⟨⟨env j, o', rest, rfl, Nat.le_of_not_lt hB, by rw [hl]; exact ho, by rw [hl]; exact hg2, by rw [hl]; rfl, hh, hok⟩, fun j' hj' => ?_⟩
          obtain rfl : j' = j := by simpa using hj'
          exact ⟨_, hj, rfl⟩
        · obtain ⟨⟨_, _, hcap⟩, rfl⟩ := ha.1
          obtain ⟨vs', hh, hR, hB⟩ := hc.blk j _ hj
          obtain ⟨e1, e2⟩ := intsOf_R hl hR
          have hlen : L.length = l.length := by have h1 := hR.length; rw [e1] at h1; simpa using h1.symm
          refine ⟨⟨env j, 0, [], rfl, Nat.le_of_not_lt hB, .inl rfl, by simp [hlen]; exact hcap, by simp [SV.conc, hlen], by rw [List.append_nil, ← e1]; exact hh, e2⟩, fun j' hj' => ?_⟩
          obtain rfl : j' = j := by simpa using hj'
          exact ⟨_, hj, rfl⟩
    refine ⟨⟨a.map env, b.map env, by simp, one.1, q1⟩, fun j hj => ?_⟩
    rcases List.mem_append.1 hj with hj | hj
    · exact one.2 j hj
    · exact q2 j hj
theorem nodup_map {α β : Type} {f : α → β} : ∀ {l : List α}, l.Nodup → (∀ x ∈ l, ∀ y ∈ l, x ≠ y → f x ≠ f y) → (l.map f).Nodup
  | [], _, _ => List.nodup_nil
  | x :: l, h, hf => by
    obtain ⟨h1, h2⟩ := List.nodup_cons.1 h
    rw [List.map_cons, List.nodup_cons]
    refine ⟨fun hm => ?_, nodup_map h2 fun a ha b hb => hf a (by simp [ha]) b (by simp [hb])⟩
    obtain ⟨y, hy, he⟩ := List.mem_map.1 hm
    exact hf x (by simp) y (by simp [hy]) (fun e => h1 (by rw [e]; exact hy)) he.symm
theorem asmAP_val {N : Nat} : ∀ {l : List RP} {svs : List SV} {ps : List TV} {vs : List Value}, asmAP l svs ps → All2 (TV.R env N) ps vs → ∃ flat, asmRP l flat vs ∧ All2 (SV.R env N) svs flat
  | [], svs, ps, vs, h, ha => by
    obtain ⟨rfl, rfl⟩ := h
    cases vs with
    | nil => exact ⟨[], ⟨rfl, rfl⟩, trivial⟩
    | cons _ _ => exact ha.elim
  | r :: rs, svs, ps, vs, h, ha => by
    obtain ⟨a, b, p, qs, rfl, rfl, hl, h1, h2⟩ := h
    cases vs with
    | nil => exact ha.elim
    | cons v vs =>
      obtain ⟨flat, q1, q2⟩ := asmAP_val h2 ha.2
      cases r with
      | c x =>
        obtain ⟨s, rfl, rfl⟩ := h1
        exact ⟨v :: flat, ⟨[v], flat, v, vs, rfl, rfl, rfl, rfl, q1⟩, ha.1, q2⟩
      | g l =>
        obtain rfl : p = .agg a := h1
        obtain ⟨ws, rfl, hR⟩ := ha.1
        exact ⟨ws ++ flat, ⟨ws, flat, _, vs, rfl, rfl, by rw [← hR.length]; exact hl, rfl, q1⟩, All2.append hR q2⟩
theorem RS.asmA_val {N : Nat} {r : RS} {svs : List SV} {x : AV} {v : Value} (h : r.asmA svs x) (ha : x.R env N v) : ∃ flat, r.asm flat v ∧ All2 (SV.R env N) svs flat := by
  cases r with
  | p y =>
    cases y with
    | c z => obtain ⟨s, rfl, rfl⟩ := h; exact ⟨[v], rfl, ha, trivial⟩
    | g l => obtain rfl : x = .agg svs := h; obtain ⟨ws, rfl, hR⟩ := ha; exact ⟨ws, rfl, hR⟩
  | t l =>
    obtain ⟨ps, rfl, h⟩ := h
    obtain ⟨ws, rfl, hR⟩ := ha
    obtain ⟨flat, q1, q2⟩ := asmAP_val h hR
    exact ⟨flat, ⟨ws, rfl, q1⟩, q2⟩
theorem RS.sat_holds {w' : World} (hc : MR C (· < w.heap.size) w env mem w') {r : RS} {x : AV} {v : Value} (h : r.sat mem x) (hv : x.R env mem.n v) : r.Holds w' w.heap.size v := by
  obtain ⟨svs, js, h1, h2, h3⟩ := h
  obtain ⟨flat, q1, q2⟩ := RS.asmA_val h1 hv
  obtain ⟨q3, q4⟩ := satRC_holds hc h2 q2
  refine ⟨flat, js.map env, q1, q3, nodup_map h3 fun a ha b hb hab => ?_⟩
  obtain ⟨x, hx, hwx⟩ := q4 a ha
  obtain ⟨y, hy, hwy⟩ := q4 b hb
  exact hc.sep a b x y hx hy hab hwx hwy

theorem RC.sat_mono {m m' : Mem} (h : ∀ j ab, m.get j = some ab → m'.get j = some ab) {r : RC} {v : SV} {js : List Nat} (hs : r.sat m v js) : r.sat m' v js := by
  cases r with
  | i k x => exact hs
  | b x => exact hs
  | e => exact hs
  | s t k L =>
    rcases hs with ⟨j, g, n, q1, q2, q3⟩ | ⟨j, n, l, q1, q2, q3⟩
    · exact .inl ⟨j, g, n, q1, h _ _ q2, q3⟩
    · exact .inr ⟨j, n, l, q1, h _ _ q2, q3⟩
theorem satRC_mono {m m' : Mem} (h : ∀ j ab, m.get j = some ab → m'.get j = some ab) : ∀ {l : List RC} {vs : List SV} {js : List Nat}, satRC m l vs js → satRC m' l vs js
  | [], [], _, hs => hs
  | r :: rs, v :: vs, js, hs => by
    obtain ⟨a, b, e, h1, h2⟩ := hs
    exact ⟨a, b, e, RC.sat_mono h h1, satRC_mono h h2⟩
  | [], _ :: _, _, hs => hs.elim
  | _ :: _, [], _, hs => hs.elim
theorem keep_sat {tell : Bool} {m : Mem} {r : RS} {v : AV} (h : r.sat (keepMem tell m) v) : r.sat m v := by
  cases tell with
  | true => exact h
  | false =>
    obtain ⟨vs, js, h1, h2, h3⟩ := h
    refine ⟨vs, js, h1, satRC_mono (fun j ab hj => ?_) h2, h3⟩
    exfalso
    have hj : (Tr.mk 14 : Tr AB).get j = some ab := hj
    rw [Tr.get_mk] at hj
    cases hj

/-- A function's run from a state of its own: its slices lie in blocks that stay, behind whatever. -/
theorem fok_core {C : Cfg} (hC : COk C) (hgl : C.gl = glFrom 0 C.gd) {g : Nat} {fn : Func} (hfn : FnOk C.P g fn) {shs : List SH} {conds : List (List Int) → List Prop} {T : List (List Int) → RT} (n : Nat) {tell : Bool}
    (hrun : ∀ Ms : Nat → List Int, okE Ms 0 (entsQ shs) → allP (conds (dataE Ms 0 (entsQ shs))) → ∃ o, callA C tell n fn (groupQ shs (argsE C.gd.length Ms 0 (entsQ shs))) (memX C.gd (blksE C.gd.length Ms 0 (entsQ shs))) = o ∧ o.sat fun v m => (T (dataE Ms 0 (entsQ shs))).now.sat m v)
    {w : World} {vals flv : List Value} {ess : List (List Int)} (hgd : GDp C.gd (· < w.heap.size) w) (hov : OpnV shs vals flv) (h1 : ess.length = (entsQ shs).length) (hlv : flv.length = (entsQ shs).length)
    (h2 : ∀ i sh, (entsQ shs)[i]? = some sh → ∃ v, flv[i]? = some v ∧ ArgLies w sh (ess.getD i []) v) (hcond : allP (conds ess)) :
    CallsL C.J g vals.toArray w fun e w' => ∃ v, e = .returned v ∧ Below w.heap.size w w' ∧ (T ess).now.Holds w' w.heap.size v := by
  have hch : ∀ i : Nat, ∃ bp : Nat × Nat, ∀ sh, (entsQ shs)[i]? = some sh → ∃ v, flv[i]? = some v ∧ sh.ok (ess.getD i []) ∧ (∀ (env' : Nat → Nat) (m' g : Nat), g < m' → env' g = bp.2 → (blkE g (ess.getD i []) sh).R env' m' (· < w.heap.size) w bp.1) ∧ ∀ (env' : Nat → Nat) (m' j : Nat), j + 1 < m' → env' j = bp.1 → env' (j + 1) = bp.2 → (argE j (ess.getD i []) sh).R env' m' v := fun i => by
    cases hi : (entsQ shs)[i]? with
    | none => exact ⟨(0, 0), fun sh h => by cases h⟩
    | some sh =>
      obtain ⟨v, hv, hl⟩ := h2 i sh hi
      obtain ⟨b, o, q1, q2, q3⟩ := pre_of hl
      exact ⟨(b, o), fun sh' h => by cases h; exact ⟨v, hv, q1, q2, q3⟩⟩
  let f : Nat → Nat × Nat := fun i => Classical.choose (hch i)
  have hf : ∀ i sh, (entsQ shs)[i]? = some sh → ∃ v, flv[i]? = some v ∧ sh.ok (ess.getD i []) ∧ (∀ (env' : Nat → Nat) (m' g : Nat), g < m' → env' g = (f i).2 → (blkE g (ess.getD i []) sh).R env' m' (· < w.heap.size) w (f i).1) ∧ ∀ (env' : Nat → Nat) (m' j : Nat), j + 1 < m' → env' j = (f i).1 → env' (j + 1) = (f i).2 → (argE j (ess.getD i []) sh).R env' m' v := fun i => Classical.choose_spec (hch i)
  let Ms : Nat → List Int := fun i => ess.getD i []
  have hd : dataE Ms 0 (entsQ shs) = ess := dataE_eq h1 fun j _ => by simp [Ms]
  have hok : ∀ {l : List SE} {i : Nat}, (∀ (j : Nat) (sh : SE), l[j]? = some sh → sh.ok (Ms (i + j))) → okE Ms i l := by
    intro l
    induction l with
    | nil => intro i _; trivial
    | cons sh l ih => intro i h; exact ⟨h 0 sh rfl, ih fun j sh' hj => by have := h (j + 1) sh' (by simpa using hj); rw [show i + 1 + j = i + (j + 1) by omega]; exact this⟩
  obtain ⟨o, ho, hs⟩ := hrun Ms (hok fun j sh hj => by obtain ⟨v, _, q, _⟩ := hf j sh hj; rw [Nat.zero_add]; exact q) (by rw [hd]; exact hcond)
  rw [← ho] at hs
  let es : List Nat := (List.range (2 * (entsQ shs).length)).map fun j => if j % 2 = 0 then (f (j / 2)).1 else (f (j / 2)).2
  have hes : ∀ i, i < (entsQ shs).length → es.getD (2 * i) 0 = (f i).1 ∧ es.getD (2 * i + 1) 0 = (f i).2 := fun i hi => by
    have a1 : 2 * i < 2 * (entsQ shs).length := by omega
    have a2 : 2 * i + 1 < 2 * (entsQ shs).length := by omega
    constructor
    · simp [es, a1]
    · have : (2 * i + 1) / 2 = i := by omega
      simp [es, a2, this]
  have hlenm : (memX C.gd (blksE C.gd.length Ms 0 (entsQ shs))).n = C.gd.length + 2 * (entsQ shs).length := by
    show C.gd.length + (blksE C.gd.length Ms 0 (entsQ shs)).length = _
    rw [blksE_len]
  have hmr : MR C (· < w.heap.size) w (envX C.gd es) (memX C.gd (blksE C.gd.length Ms 0 (entsQ shs))) w := by
    refine MR.focusE hgl hgd (fun b hb => hb) (fun j ab hj => ?_) (fun i j a b hi hj hne ha hb => ?_)
    · rcases blksE_get hj with ⟨p, sh, rfl, hsh, rfl⟩ | rfl
      · rw [Nat.zero_add]
        obtain ⟨v, _, _, q, _⟩ := hf p sh hsh
        have hp := (List.getElem?_eq_some_iff.1 hsh).1
        rw [(hes p hp).1]
        refine q _ _ _ ?_ ?_
        · rw [blksE_len]; omega
        · rw [show C.gd.length + 2 * p + 1 = C.gd.length + (2 * p + 1) by omega, envX_at, (hes p hp).2]
      · trivial
    · exfalso
      rcases blksE_get hi with ⟨p, sh, _, _, rfl⟩ | rfl
      · cases sh <;> cases ha
      · cases ha
  have hargs : All2 (AV.R (envX C.gd es) (memX C.gd (blksE C.gd.length Ms 0 (entsQ shs))).n) (argsE C.gd.length Ms 0 (entsQ shs)) flv := by
    refine all2_of_get (by rw [argsE_len, hlv]) fun i x hi => ?_
    obtain ⟨sh, hsh, rfl⟩ := argsE_get hi
    rw [Nat.zero_add]
    obtain ⟨v, hv, _, _, q⟩ := hf i sh hsh
    have hlt := (List.getElem?_eq_some_iff.1 hsh).1
    refine ⟨v, hv, q _ _ _ ?_ ?_ ?_⟩
    · rw [hlenm]; omega
    · rw [envX_at, (hes i hlt).1]
    · rw [show C.gd.length + 2 * i + 1 = C.gd.length + (2 * i + 1) by omega, envX_at, (hes i hlt).2]
  refine (callA_ends hC hfn hs hmr (groupQ_R hov hargs)).mono ?_
  rintro e w' ⟨v, he, r', memc, envc, hK, hc, hx, hR⟩
  rw [hd] at hK
  exact ⟨v, he, hc.below.below, RS.sat_holds hc (keep_sat hK) hR⟩

/-- A function's summary. -/
theorem fok_run {C : Cfg} (hC : COk C) {G : List (Nat × List SV)} (hG : C.gd = G) (hgl : C.gl = glFrom 0 G) {g : Nat} {fn : Func} (hfn : FnOk C.P g fn) (hb : fn.body.isSome = true) {shs : List SH} {conds : List (List Int) → List Prop} {T : List (List Int) → RT} (n : Nat)
    (hrun : ∀ Ms : Nat → List Int, okE Ms 0 (entsQ shs) → allP (conds (dataE Ms 0 (entsQ shs))) → ∃ o, callA C true n fn (groupQ shs (argsE G.length Ms 0 (entsQ shs))) (memX G (blksE G.length Ms 0 (entsQ shs))) = o ∧ o.sat fun v m => (T (dataE Ms 0 (entsQ shs))).now.sat m v) : FOk C g (fsum shs conds T) := by
  subst hG
  refine ⟨⟨fn, hfn, hb⟩, fun args mem r cs hF hp B w0 w env vals hm ha => ?_⟩
  unfold fsum at hF
  split at hF
  · rename_i fl hop
    split at hF
    · rename_i ps ess hparse
      cases hF
      rw [allP_iff] at hp
      obtain ⟨flv, hov, hfl⟩ := openQ_R hop ha
      obtain ⟨h1, hlv, h2⟩ := parseEs_spec hm hparse hp.1 hfl
      exact (fok_core hC hgl hfn n hrun (fun p hp => ⟨hm.base _ (hm.gd p hp).1, (hm.gd p hp).2⟩) hov h1 hlv h2 hp.2).calls
    · cases hF
  · cases hF

end

/-! ## A run's result, looked at -/

/-- A run's tree with its results as parts, the lengths that slices tell, and their blocks. -/
inductive R2 where
  | bad (n : Nat)
  | need (p : Prop) (o : R2)
  | br (c : Bool) (t f : R2)
  | both (a b : R2)
  | leaf (r : RS) (ns js : List Nat)
  | lost

def viewS (m : Mem) : SV → Option (RC × Nat × List Nat)
  | .sq j g o n => match Nat.beq o 0, m.get j with
    | true, some (.seq t k L g') => match Nat.beq g g' with | true => some (.s t k L, n, [j]) | false => none
    | _, _ => none
  | .slice _ _ 0 0 => some (.e, 0, [])
  | .slice j o n c => match Nat.beq o 0 && Nat.beq n c, m.get j with
    | true, some (.cells t l) => match Nat.beq n l.length, kindOf l with
      | true, some k => match intsOf k l with | some L => some (.s t k L, L.length, [j]) | none => none
      | _, _ => none
    | _, _ => none
  | .li k n => some (.i k n, 0, [])
  | .si k n => some (.i k n, 0, [])
  | .lb b => some (.b b, 0, [])
  | .sb b => some (.b b, 0, [])
  | .e0 => some (.e, 0, [])
  | .raw (.slice none 0 0) => some (.e, 0, [])
  | _ => none
def viewSs (m : Mem) : List SV → Option (List RC × List Nat × List Nat)
  | [] => some ([], [], [])
  | v :: vs => match viewS m v, viewSs m vs with | some (c, n, j), some (cs, ns, js) => some (c :: cs, n :: ns, j ++ js) | _, _ => none
def viewP (m : Mem) : TV → Option (RP × List Nat × List Nat)
  | .one s => match viewS m s with | some (c, n, j) => some (.c c, [n], j) | none => none
  | .agg l => match viewSs m l with | some (cs, ns, js) => some (.g cs, ns, js) | none => none
def viewPs (m : Mem) : List TV → Option (List RP × List Nat × List Nat)
  | [] => some ([], [], [])
  | v :: vs => match viewP m v, viewPs m vs with | some (c, n, j), some (cs, ns, js) => some (c :: cs, n ++ ns, j ++ js) | _, _ => none
def viewA (m : Mem) : AV → R2
  | .one s => match viewS m s with | some (c, n, j) => .leaf (.p (.c c)) [n] j | none => .lost
  | .agg l => match viewSs m l with | some (cs, ns, js) => .leaf (.p (.g cs)) ns js | none => .lost
  | .tup l => match viewPs m l with | some (rs, ns, js) => .leaf (.t rs) ns js | none => .lost
def Out.view : Out → R2
  | .bad n => .bad n
  | .need p o => .need p o.view
  | .br c t f => .br c t.view f.view
  | .both a b => .both a.view b.view
  | .done v m => viewA m v

def R2.sat (K : RS → List Nat → List Nat → Prop) : R2 → Prop
  | .bad _ => False
  | .need p o => p ∧ o.sat K
  | .br c t f => (c = true → t.sat K) ∧ (c = false → f.sat K)
  | .both a b => a.sat K ∧ b.sat K
  | .leaf r ns js => K r ns js
  | .lost => False

def lenOk : RC → Nat → Prop
  | .s _ _ L, n => n = L.length
  | _, _ => True
/-- The result that is wanted: slices as long as they say, no two of them of one block. -/
def RS.met (r : RS) : RS → List Nat → List Nat → Prop := fun r' ns js => r' = r ∧ All2 lenOk r.cells ns ∧ js.Nodup

theorem viewS_sat {m : Mem} {v : SV} {x : RC} {n : Nat} {js : List Nat} (h : viewS m v = some (x, n, js)) (hl : lenOk x n) : x.sat m v js := by
  unfold viewS at h
  split at h
  · rename_i j g o n'
    split at h
    · rename_i t k L g' ho hg
      split at h
      · rename_i hgg
        have hgg := Nat.eq_of_beq_eq_true hgg
        have ho := Nat.eq_of_beq_eq_true ho
        subst hgg ho
        cases h
        exact .inl ⟨j, g, n, rfl, hg, hl, rfl⟩
      · cases h
    · cases h
  · cases h; exact ⟨.inr (.inr ⟨_, _, rfl⟩), rfl⟩
  · rename_i j o n' c
    split at h
    · rename_i t l ho hg
      split at h
      · rename_i k hn hk
        split at h
        · rename_i L hL
          simp only [Bool.and_eq_true] at ho
          have h1 := Nat.eq_of_beq_eq_true ho.1
          have h2 := Nat.eq_of_beq_eq_true ho.2
          have h3 := Nat.eq_of_beq_eq_true hn
          subst h1 h2
          cases h
          exact .inr ⟨_, _, l, rfl, hg, hL, h3, rfl⟩
        · cases h
      · cases h
    · cases h
  · cases h; exact ⟨rfl, rfl⟩
  · cases h; exact ⟨rfl, rfl⟩
  · cases h; exact ⟨rfl, rfl⟩
  · cases h; exact ⟨rfl, rfl⟩
  · cases h; exact ⟨.inl rfl, rfl⟩
  · cases h; exact ⟨.inr (.inl rfl), rfl⟩
  · cases h
theorem viewSs_sat {m : Mem} : ∀ {vs : List SV} {l : List RC} {ns js : List Nat}, viewSs m vs = some (l, ns, js) → l.length = vs.length ∧ ns.length = l.length ∧ (All2 lenOk l ns → satRC m l vs js)
  | [], l, ns, js, h => by cases h; exact ⟨rfl, rfl, fun _ => rfl⟩
  | v :: vs, l, ns, js, h => by
    simp only [viewSs] at h
    split at h
    · rename_i c n j cs ns' js' h1 h2
      cases h
      obtain ⟨q1, q2, q3⟩ := viewSs_sat h2
      exact ⟨by simp [q1], by simp [q2], fun hl => ⟨j, js', rfl, viewS_sat h1 hl.1, q3 hl.2⟩⟩
    · cases h
theorem satRC_app {m : Mem} : ∀ {l : List RC} {l' : List RC} {vs vs' : List SV} {js js' : List Nat}, satRC m l vs js → satRC m l' vs' js' → satRC m (l ++ l') (vs ++ vs') (js ++ js')
  | [], _, [], _, js, _, h, h' => by simp only [satRC] at h; subst h; exact h'
  | c :: cs, _, v :: vs, _, js, js', h, h' => by
    obtain ⟨a, b, rfl, h1, h2⟩ := h
    exact ⟨a, b ++ js', by simp, h1, satRC_app h2 h'⟩
  | [], _, _ :: _, _, _, _, h, _ => h.elim
  | _ :: _, _, [], _, _, _, h, _ => h.elim
theorem viewP_sat {m : Mem} {v : TV} {x : RP} {ns js : List Nat} (h : viewP m v = some (x, ns, js)) : ∃ svs, svs.length = x.cells.length ∧ ns.length = x.cells.length ∧ x.asmA svs v ∧ (All2 lenOk x.cells ns → satRC m x.cells svs js) := by
  cases v with
  | one s =>
    simp only [viewP] at h
    split at h
    · rename_i c n j h1
      cases h
      exact ⟨[s], rfl, rfl, ⟨s, rfl, rfl⟩, fun hl => ⟨js, [], by simp, viewS_sat h1 hl.1, rfl⟩⟩
    · cases h
  | agg l =>
    simp only [viewP] at h
    split at h
    · rename_i cs ns' js' h1
      cases h
      obtain ⟨q1, q2, q3⟩ := viewSs_sat h1
      exact ⟨l, q1.symm, q2, rfl, q3⟩
    · cases h
theorem viewPs_sat {m : Mem} : ∀ {vs : List TV} {l : List RP} {ns js : List Nat}, viewPs m vs = some (l, ns, js) → ∃ svs, asmAP l svs vs ∧ (All2 lenOk (l.flatMap RP.cells) ns → satRC m (l.flatMap RP.cells) svs js)
  | [], l, ns, js, h => by cases h; exact ⟨[], ⟨rfl, rfl⟩, fun _ => rfl⟩
  | v :: vs, l, ns, js, h => by
    simp only [viewPs] at h
    split at h
    · rename_i c n j cs ns' js' h1 h2
      cases h
      obtain ⟨s1, e1, e2, e3, e4⟩ := viewP_sat h1
      obtain ⟨s2, e5, e6⟩ := viewPs_sat h2
      refine ⟨s1 ++ s2, ⟨s1, s2, v, vs, rfl, rfl, e1, e3, e5⟩, fun hl => ?_⟩
      rw [List.flatMap_cons] at hl ⊢
      obtain ⟨p1, p2⟩ := all2_split e2.symm hl
      exact satRC_app (e4 p1) (e6 p2)
    · cases h
theorem view_sat {T : RS} : ∀ {o : Out}, o.view.sat T.met → o.sat fun v m => T.sat m v
  | .bad _, h => h
  | .need p o, h => ⟨h.1, view_sat h.2⟩
  | .br c t f, h => ⟨fun hc => view_sat (h.1 hc), fun hc => view_sat (h.2 hc)⟩
  | .both a b, h => ⟨view_sat h.1, view_sat h.2⟩
  | .done v m, h => by
    have h : (viewA m v).sat T.met := h
    show T.sat m v
    cases v with
    | one s =>
      simp only [viewA] at h
      split at h
      · rename_i c n j h1
        obtain ⟨e, hl, hn⟩ := h
        subst e
        exact ⟨[s], j, ⟨s, rfl, rfl⟩, ⟨j, [], by simp, viewS_sat h1 hl.1, rfl⟩, hn⟩
      · exact h.elim
    | agg l =>
      simp only [viewA] at h
      split at h
      · rename_i cs ns js h1
        obtain ⟨e, hl, hn⟩ := h
        subst e
        exact ⟨l, js, rfl, (viewSs_sat h1).2.2 hl, hn⟩
      · exact h.elim
    | tup vs =>
      simp only [viewA] at h
      split at h
      · rename_i rs ns js h1
        obtain ⟨e, hl, hn⟩ := h
        subst e
        obtain ⟨svs, e1, e2⟩ := viewPs_sat h1
        exact ⟨svs, js, ⟨vs, rfl, e1⟩, e2 hl, hn⟩
      · exact h.elim

end Go.Ax
