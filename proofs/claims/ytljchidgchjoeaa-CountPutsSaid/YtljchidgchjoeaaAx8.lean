/- A region whose order is open: the first n operations stand in whatever order their edges allow, then a forced tail. What is known is a fact of those that have been carried out. -/
import Derived.Test.YtljchidgchjoeaaAx7b
namespace Go.Ax
open Go Go.RowKit

section
variable {P : Program} {J : Judg P} {ops : Array Oper} {md : Region.Mode}

/-- How many of the first n are not yet listed. -/
def left (listed : Array Bool) : Nat → Nat
  | 0 => 0
  | n + 1 => (if listed.getD n true = false then 1 else 0) + left listed n

theorem left_set_ge {listed : Array Bool} {i : Nat} : ∀ {n : Nat}, n ≤ i → left (listed.setIfInBounds i true) n = left listed n
  | 0, _ => rfl
  | n + 1, h => by simp only [left]; rw [getD_set_ne true (by omega), left_set_ge (by omega)]

theorem in_of_unlisted {listed : Array Bool} {i : Nat} (h : listed.getD i true = false) : i < listed.size := by
  rcases Nat.lt_or_ge i listed.size with h' | h'
  · exact h'
  · simp [Array.getElem?_eq_none h'] at h

theorem getD_set_self {listed : Array Bool} {i : Nat} (d : Bool) (h : listed.getD i true = false) : (listed.setIfInBounds i true).getD i d = true := by
  have := in_of_unlisted h
  simp [this]

theorem left_set {listed : Array Bool} {i : Nat} (hi : listed.getD i true = false) : ∀ {n : Nat}, i < n → left listed n = left (listed.setIfInBounds i true) n + 1
  | n + 1, h => by
    simp only [left]
    by_cases hin : i = n
    · subst hin
      rw [left_set_ge (Nat.le_refl _), getD_set_self true hi, if_pos hi]
      simp only [Bool.true_eq_false, if_false]
      omega
    · rw [getD_set_ne true hin, left_set hi (by omega)]; omega

theorem left_zero {listed : Array Bool} : ∀ {n : Nat}, left listed n = 0 → ∀ i, i < n → listed.getD i true = true
  | n + 1, h, i, hi => by
    simp only [left] at h
    by_cases hin : i = n
    · subst hin
      cases hq : listed.getD i true with
      | true => rfl
      | false => rw [if_pos hq] at h; omega
    · exact left_zero (n := n) (by omega) i (by omega)

theorem left_least {listed : Array Bool} : ∀ {n : Nat}, left listed n ≠ 0 → ∃ i, i < n ∧ listed.getD i true = false ∧ ∀ j, j < i → listed.getD j true = true
  | n + 1, h => by
    by_cases hl : left listed n = 0
    · refine ⟨n, Nat.lt_succ_self n, ?_, left_zero hl⟩
      simp only [left, hl, Nat.add_zero] at h
      cases hq : listed.getD n true with
      | false => rfl
      | true => rw [hq] at h; simp at h
    · obtain ⟨i, h1, h2, h3⟩ := left_least hl
      exact ⟨i, by omega, h2, h3⟩

theorem sched {n g : Nat} {Q : Exit → Act → World → Prop} {Iv : Array Bool → Act → World → Prop} (hn : n ≤ ops.size)
    (hedge : ∀ k o, k < n → ops[k]? = some o → ∀ e ∈ o.after, Region.binds md e = true → e.on < k)
    (hin : ∀ listed, HeadInv md ops n listed → ∀ i, i < n → listed.getD i true = false → ∀ j ∈ Region.ready md ops listed, j < n)
    (hstep : ∀ listed i a w, HeadInv md ops n listed → i ∈ Region.ready md ops listed → i < n → Iv listed a w → wpOpJ J ops Q i (fun a' w' => Iv (listed.setIfInBounds i true) a' w') a w)
    (hend : ∀ listed a w, HeadInv md ops n listed → (∀ i, i < n → listed.getD i true = true) → Iv listed a w → wpAnyJ J md ops Q g listed a w) :
    ∀ (f : Nat) (listed : Array Bool) (a : Act) (w : World), HeadInv md ops n listed → left listed n = f → Iv listed a w → wpAnyJ J md ops Q (f + g) listed a w
  | 0, listed, a, w, inv, hl, hJ => by rw [Nat.zero_add]; exact hend listed a w inv (left_zero hl) hJ
  | f + 1, listed, a, w, inv, hl, hJ => by
    rw [show f + 1 + g = (f + g) + 1 by omega]
    obtain ⟨k, hk, hun, hlow⟩ := left_least (listed := listed) (n := n) (by omega)
    have hks : k < ops.size := by omega
    have hkr : k ∈ Region.ready md ops listed := by
      refine mem_ready.2 ⟨hun, ops[k], Array.getElem?_eq_getElem hks, fun e he hb => ?_⟩
      have h1 := hedge k _ hk (Array.getElem?_eq_getElem hks) e he hb
      have h2 := hlow e.on h1
      have h3 : e.on < listed.size := by rw [inv.size]; omega
      simpa [h3] using h2
    refine ⟨fun h0 => (by rw [h0] at hkr; cases hkr), fun i hi => ?_⟩
    have hin' := hin listed inv k hk hun i hi
    refine wpOpJ_mono (fun a' w' h' => ?_) (hstep listed i a w inv hi hin' hJ)
    have := left_set (mem_ready.1 hi).1 hin'
    exact sched hn hedge hin hstep hend f _ a' w' (inv.set hi hin') (by omega) h'

/-- Of two operations the later one waits for the earlier one, or they have nothing in common. -/
def PW (md : Region.Mode) (ops : Array Oper) (n : Nat) : Prop :=
  ∀ i, i < n → ∀ j oi oj, i < j → ops[i]? = some oi → ops[j]? = some oj → (∃ e ∈ oj.after, Region.binds md e = true ∧ e.on = i) ∨ oi.apart ops oj = true

/-- The first k are listed. -/
def Firsts (ops : Array Oper) (k : Nat) (listed : Array Bool) : Prop := listed.size = ops.size ∧ ∀ j d, j < ops.size → listed.getD j d = decide (j < k)

theorem Firsts.set {k : Nat} {listed : Array Bool} (h : Firsts ops k listed) (hk : k < ops.size) : Firsts ops (k + 1) (listed.setIfInBounds k true) := by
  refine ⟨by simp [h.1], fun j d hj => ?_⟩
  by_cases hjk : k = j
  · subst hjk
    rw [getD_set_self d (by rw [h.2 k true hk]; simp)]
    simp
  · rw [getD_set_ne d hjk, h.2 j d hj]
    exact decide_eq_decide.2 (by omega)

theorem Firsts.eq {k : Nat} {l l' : Array Bool} (h : Firsts ops k l) (h' : Firsts ops k l') : l = l' := by
  refine Array.ext (h.1.trans h'.1.symm) fun i h1 h2 => ?_
  have e1 := h.2 i true (by rw [← h.1]; exact h1)
  have e2 := h'.2 i true (by rw [← h.1]; exact h1)
  simp only [Array.getD_eq_getD_getElem?, Array.getElem?_eq_getElem h1, Array.getElem?_eq_getElem h2, Option.getD_some] at e1 e2
  rw [e1, e2]

theorem lexHead_facts {g : Nat} : ∀ (f k : Nat) (listed : Array Bool), Firsts ops k listed → k + f ≤ ops.size → Region.lexHead md ops g f k listed = true →
    (∀ i, k ≤ i → i < k + f → (∀ o, ops[i]? = some o → ∀ e ∈ o.after, Region.binds md e = true → e.on < i) ∧
      ∀ j oi oj, i < j → ops[i]? = some oi → ops[j]? = some oj → (∃ e ∈ oj.after, Region.binds md e = true ∧ e.on = i) ∨ oi.apart ops oj = true) ∧
    ∃ l, Firsts ops (k + f) l ∧ Region.seqB md ops g (k + f) l = true
  | 0, k, listed, hF, _, h => ⟨fun i h1 h2 => by omega, listed, hF, by simpa [Region.lexHead] using h⟩
  | f + 1, k, listed, hF, hle, h => by
    simp only [Region.lexHead, Bool.and_eq_true] at h
    obtain ⟨⟨hr, hf⟩, h'⟩ := h
    have hr' : k ∈ Region.ready md ops listed := by simpa using hr
    obtain ⟨q1, q2⟩ := lexHead_facts f (k + 1) _ (hF.set (by omega)) (by omega) h'
    refine ⟨fun i h1 h2 => ?_, by rw [show k + (f + 1) = k + 1 + f by omega]; exact q2⟩
    by_cases hik : i = k
    · subst hik
      obtain ⟨_, o', ho', hall⟩ := mem_ready.1 hr'
      refine ⟨fun o ho e he hb => ?_, fun j oi oj hij hoi hoj => ?_⟩
      · obtain rfl : o = o' := Option.some.inj (ho.symm.trans ho')
        have h3 := hall e he hb
        rcases Nat.lt_or_ge e.on ops.size with h4 | h4
        · rw [hF.2 e.on false h4] at h3
          exact of_decide_eq_true h3
        · have h5 : ¬ e.on < listed.size := by rw [hF.1]; omega
          simp [h5] at h3
      · by_cases hw : ∃ e ∈ oj.after, Region.binds md e = true ∧ e.on = i
        · exact .inl hw
        · refine .inr (Region.free_spec hoi hf j oj hoj (by omega) ?_ fun e he hb heq => hw ⟨e, he, hb, heq⟩)
          have hj : j < ops.size := (Array.getElem?_eq_some_iff.1 hoj).1
          rw [hF.2 j true hj]
          exact decide_eq_false (by omega)
    · exact q1 i (by omega) (by omega)

theorem lexFrom_head : ∀ (f k : Nat) (listed : Array Bool), Region.lexFrom md ops f k listed = Region.lexHead md ops 0 f k listed
  | 0, _, _ => rfl
  | f + 1, k, listed => by simp only [Region.lexFrom, Region.lexHead, lexFrom_head f]

theorem firsts0 : Firsts ops 0 (Array.replicate ops.size false) := ⟨by simp, fun j d hj => by simp [hj]⟩

theorem any_open {Q : Exit → Act → World → Prop} {a : Act} {w : World} {n : Nat} {Iv : Array Bool → Act → World → Prop} (hB : openB ops n = true)
    (h0 : Iv (Array.replicate ops.size false) a { w with drawn := w.drawn + 1 })
    (hstep : n ≤ ops.size → PW .any ops n → ∀ listed i a w, HeadInv .any ops n listed → i ∈ Region.ready .any ops listed → i < n → Iv listed a w → wpOpJ J ops Q i (fun a' w' => Iv (listed.setIfInBounds i true) a' w') a w)
    (hend : ∀ listed a w, (∀ i, i < n → listed.getD i true = true) → Iv listed a w → wpListJ J ops Q (ops.toList.drop n) a w) : wpAnyJ J .any ops Q ops.size (Array.replicate ops.size false) a { w with drawn := w.drawn + 1 } := by
  have key : n ≤ ops.size ∧ Region.lexHead .any ops (ops.size - n) n 0 (Array.replicate ops.size false) = true ∧
      ∀ listed, HeadInv .any ops n listed → ∀ i, i < n → listed.getD i true = false → ∀ j ∈ Region.ready .any ops listed, j < n := by
    unfold openB at hB
    split at hB
    · rename_i he
      have he := Nat.eq_of_beq_eq_true he
      subst he
      simp only [Region.lexB, Bool.and_eq_true] at hB
      refine ⟨Nat.le_refl _, by rw [Nat.sub_self, ← lexFrom_head]; exact hB.2, fun listed _ _ _ _ j hj => ?_⟩
      obtain ⟨_, o, ho, _⟩ := mem_ready.1 hj
      exact (Array.getElem?_eq_some_iff.1 ho).1
    · simp only [Region.lexTailB, Bool.and_eq_true, decide_eq_true_eq] at hB
      obtain ⟨⟨⟨⟨_, hn⟩, hs⟩, hc⟩, hlex⟩ := hB
      refine ⟨Nat.le_of_lt hn, hlex, fun listed inv i hi hun j hj => ?_⟩
      rcases Nat.lt_or_ge j n with h | h
      · exact h
      · exact absurd hj (tail_waits hs hc hn inv _ i rfl hi hun j h)
  obtain ⟨hn, hlex, hin⟩ := key
  obtain ⟨q1, l, hl, hseq⟩ := lexHead_facts n 0 _ firsts0 (by omega) hlex
  rw [Nat.zero_add] at hl hseq
  have hpw : PW .any ops n := fun i hi j oi oj hij => (q1 i (Nat.zero_le _) (by omega)).2 j oi oj hij
  have inv0 : HeadInv .any ops n (Array.replicate ops.size false) :=
    ⟨by simp, fun j oj _ hl => (by rw [getD_replicate_false] at hl; cases hl), fun t _ ht => getD_in (by simpa using ht) (getD_replicate_false _ _)⟩
  have hleft : left (Array.replicate ops.size false) n = n := by
    have : ∀ k, k ≤ ops.size → left (Array.replicate ops.size false) k = k := fun k => by
      induction k with
      | zero => intro _; rfl
      | succ k ih =>
        intro hk
        simp only [left]
        rw [ih (by omega), if_pos (getD_in (by simp; omega) (getD_replicate_false _ _))]
        omega
    exact this n hn
  have := sched (P := P) (Q := Q) (g := ops.size - n) hn (fun k o hk ho => (q1 k (Nat.zero_le _) (by omega)).1 o ho) hin (hstep hn hpw)
    (fun listed a' w' inv hall hJ => by
      have hF : Firsts ops n listed := ⟨inv.size, fun j d hj => by
        rcases Nat.lt_or_ge j n with h | h
        · have := hall j h
          have hs : j < listed.size := by rw [inv.size]; exact hj
          simp only [Array.getD_eq_getD_getElem?, Array.getElem?_eq_getElem hs, Option.getD_some] at this ⊢
          rw [this, decide_eq_true h]
        · have := inv.tail j h hj
          have hs : j < listed.size := by rw [inv.size]; exact hj
          simp only [Array.getD_eq_getD_getElem?, Array.getElem?_eq_getElem hs, Option.getD_some] at this ⊢
          rw [this, decide_eq_false (by omega)]⟩
      obtain rfl := hF.eq hl
      have hdl : (ops.toList.drop n).length = ops.size - n := by simp
      have := wpAnyJ_of_seq (md := .any) (Q := Q) (ops.toList.drop n) n listed a' w' (fun j => by simp [List.getElem?_drop]) (by rw [hdl]; exact hseq) (hend listed a' w' hall hJ)
      rwa [hdl] at this)
    n _ a _ inv0 hleft h0
  rwa [show n + (ops.size - n) = ops.size by omega] at this

/-! ## Moves that may stand first -/

theorem headOf_spec {ops : Array Oper} : ∀ {f n m : Nat}, headOf ops f n = some m → openB ops m = true
  | 0, _, _, h => by cases h
  | f + 1, n, m, h => by
    simp only [headOf] at h
    split at h
    · rename_i hb; cases h; exact hb
    · exact headOf_spec h

theorem afterF_get {F : List Nat} : ∀ {l : List Oper} {i j : Nat}, (afterF F i l)[j]? = (l[j]?).map (waitF F (i + j))
  | [], i, j => by simp [afterF]
  | o :: l, i, 0 => by simp [afterF]
  | o :: l, i, j + 1 => by
    simp only [afterF, List.getElem?_cons_succ]
    rw [afterF_get]
    congr 2; omega
theorem afterF_len {F : List Nat} : ∀ {l : List Oper} {i : Nat}, (afterF F i l).length = l.length
  | [], _ => rfl
  | _ :: l, i => by simp [afterF, afterF_len (l := l)]
def floatedF (F : List Nat) (ops : Array Oper) : Array Oper := (afterF F 0 ops.toList).toArray
theorem floated_size {F : List Nat} : (floatedF F ops).size = ops.size := by simp [floatedF, afterF_len]
theorem floated_get {F : List Nat} {j : Nat} : (floatedF F ops)[j]? = (ops[j]?).map (waitF F j) := by
  simp [floatedF, afterF_get]
theorem waitF_fields {F : List Nat} {i : Nat} {o : Oper} : (waitF F i o).dst = o.dst ∧ (waitF F i o).op = o.op ∧ (waitF F i o).type = o.type ∧ (waitF F i o).guard = o.guard := by
  unfold waitF; split <;> exact ⟨rfl, rfl, rfl, rfl⟩
theorem waitF_eq {F : List Nat} {i : Nat} {o : Oper} : ∃ e, waitF F i o = { o with after := e } := by
  unfold waitF
  split
  · exact ⟨o.after, rfl⟩
  · exact ⟨_, rfl⟩
theorem floated_yielded {F : List Nat} {tmps : Array Value} : yielded (floatedF F ops) tmps = yielded ops tmps := by
  funext j
  unfold yielded
  rw [floated_get]
  cases ops[j]? with
  | none => rfl
  | some o => simp [waitF_fields.1]
theorem floated_ready {F : List Nat} {listed : Array Bool} (hF : ∀ f ∈ F, listed.getD f false = true) : Region.ready .any (floatedF F ops) listed = Region.ready .any ops listed := by
  unfold Region.ready
  rw [floated_size]
  refine List.filter_congr fun i _ => ?_
  rw [floated_get]
  cases ops[i]? with
  | none => rfl
  | some o =>
    simp only [Option.map_some, Option.getD_some]
    congr 1
    unfold waitF
    split
    · rfl
    · have : (edgesTo F).all (fun e => !Region.binds .any e || listed.getD e.on false) = true := by
        rw [Array.all_eq_true_iff_forall_mem]
        intro e he
        simp only [edgesTo, List.mem_toArray, List.mem_map] at he
        obtain ⟨f, hf, rfl⟩ := he
        simp only [hF f hf, Bool.or_true]
      rw [Array.all_append, this, Bool.and_true]
theorem floated_op {F : List Nat} {Q : Exit → Act → World → Prop} {i : Nat} {K : Act → World → Prop} {a : Act} {w : World} (h : wpOpJ J (floatedF F ops) Q i K a w) : wpOpJ J ops Q i K a w := by
  unfold wpOpJ at h ⊢
  rw [floated_get, floated_yielded] at h
  cases ho : ops[i]? with
  | none => rw [ho] at h; exact h
  | some o =>
    rw [ho] at h
    obtain ⟨e, he⟩ := waitF_eq (F := F) (i := i) (o := o)
    simp only [Option.map_some, he] at h
    exact h
theorem floated_any {F : List Nat} {Q : Exit → Act → World → Prop} : ∀ (n : Nat) (listed : Array Bool) (a : Act) (w : World), (∀ f ∈ F, listed.getD f false = true) → wpAnyJ J .any (floatedF F ops) Q n listed a w → wpAnyJ J .any ops Q n listed a w
  | 0, listed, a, w, hF, h => by
    simp only [wpAnyJ, floated_ready hF] at h ⊢
    exact h
  | n + 1, listed, a, w, hF, h => by
    simp only [wpAnyJ, floated_ready hF] at h ⊢
    refine ⟨h.1, fun i hi => wpOpJ_mono (fun a' w' h' => floated_any n _ a' w' (fun f hf => getD_set_true (hF f hf)) h') (floated_op (h.2 i hi))⟩

theorem move_run {o : Oper} {a : Act} {w : World} {x : Operand} (ho : o.op = .move x) : (execOp a.eval o).run P w = .ok (.value (a.eval x)) w := by
  unfold execOp
  simp only [ho]
  rfl
theorem move_ns {l : Nat} {o : Oper} {a : Act} {x : Operand} (ho : o.op = .move x) : NS l P (execOp a.eval o) := by
  unfold execOp
  simp only [ho]
  exact ns_pure _
theorem floatB_spec {i : Nat} (h : floatB ops i = true) : ∃ o x, ops[i]? = some o ∧ o.op = .move x ∧ o.guard = none ∧ (∀ e ∈ o.after, Region.binds .any e = false) ∧ Region.free .any ops (Array.replicate ops.size false) i = true := by
  unfold floatB at h
  split at h
  · rename_i o ho
    split at h
    · rename_i x hx hg
      simp only [Bool.and_eq_true, Array.all_eq_true_iff_forall_mem, Bool.not_eq_true'] at h
      exact ⟨o, x, ho, hx, hg, h.1, h.2⟩
    · cases h
  · cases h
theorem float_step {F : List Nat} {Q : Exit → Act → World → Prop} (hsel : Region.noSelect ops = true) (hQ : ∀ c a w, ¬ Q (.panic c) a w) (hQs : ∀ a w w1, J.rel w w1 → Q .normal a w → Q .normal a w1) (hF : ∀ f ∈ F, floatB ops f = true) :
    ∀ (rest : List Nat) (n : Nat) (listed : Array Bool) (a : Act) (w : World), (∀ f ∈ rest, f ∈ F ∧ listed.getD f true = false) → rest.Nodup → (∀ f ∈ F, f ∉ rest → listed.getD f false = true) → wpAnyJ J .any (floatedF F ops) Q (n + rest.length) listed a w → wpAnyJ J .any ops Q (n + rest.length) listed a w
  | [], n, listed, a, w, _, _, hl, h => floated_any _ listed a w (fun f hf => hl f hf (by simp)) h
  | f :: rest, n, listed, a, w, hr, hnd, hl, h => by
    obtain ⟨hfF, hun⟩ := hr f (by simp)
    obtain ⟨o, x, ho, hx, hg, hb, hfree⟩ := floatB_spec (hF f hfF)
    rw [List.length_cons, ← Nat.add_assoc] at h ⊢
    have hw : waitF F f o = o := by
      unfold waitF
      have : F.any (Nat.beq f) = true := List.any_eq_true.2 ⟨f, hfF, by simp⟩
      rw [this]
    have hready' : f ∈ Region.ready .any (floatedF F ops) listed := by
      refine mem_ready.2 ⟨hun, o, by rw [floated_get, ho, Option.map_some, hw], fun e he hbe => ?_⟩
      rw [hb e he] at hbe; cases hbe
    have hready : f ∈ Region.ready .any ops listed := by
      refine mem_ready.2 ⟨hun, o, ho, fun e he hbe => ?_⟩
      rw [hb e he] at hbe; cases hbe
    have h1 := h.2 f hready'
    have h2 : wpAnyJ J .any (floatedF F ops) Q (n + rest.length) (listed.setIfInBounds f true) (a.put o.dst (a.eval x)) w := by
      unfold wpOpJ at h1
      rw [floated_get, ho, Option.map_some, hw] at h1
      simp only [Region.wanted, hg, if_true] at h1
      have h1 := h1.2 w (J.refl w)
      rw [move_run hx] at h1
      exact h1
    have hne : ∀ g ∈ rest, f ≠ g := fun g hg e => (List.nodup_cons.1 hnd).1 (e ▸ hg)
    have h3 := float_step hsel hQ hQs hF rest n _ _ w (fun g hg => ⟨(hr g (by simp [hg])).1, by rw [getD_set_ne true (hne g hg)]; exact (hr g (by simp [hg])).2⟩) (List.nodup_cons.1 hnd).2 (fun g hgF hgr => by
      by_cases hgf : f = g
      · subst hgf; exact getD_set_self false hun
      · rw [getD_set_ne false hgf]; exact hl g hgF (by simp [hgr]; exact fun e => hgf e.symm)) h2
    refine wpAnyJ_first ho (Region.noSelect_spec hsel) (fun c a w h => absurd h (hQ c _ w)) hQs _ listed a w (fun j oj hj hne hunj hno => ?_) hready (.inl ⟨by simp [Region.wanted, hg], fun _ => move_ns hx, fun w => move_run hx⟩) h3
    refine Region.free_spec ho hfree j oj hj hne ?_ hno
    have : j < ops.size := (Array.getElem?_eq_some_iff.1 hj).1
    simp [this]
theorem floats_spec {f : Nat} : ∀ {n : Nat}, f ∈ floats ops n → floatB ops f = true ∧ f < n
  | n + 1, h => by
    unfold floats at h
    split at h
    · rename_i hb
      rcases List.mem_cons.1 h with rfl | h
      · exact ⟨hb, Nat.lt_succ_self _⟩
      · have := floats_spec h; exact ⟨this.1, by omega⟩
    · have := floats_spec h; exact ⟨this.1, by omega⟩
theorem floats_nodup : ∀ {n : Nat}, (floats ops n).Nodup
  | 0 => List.nodup_nil
  | n + 1 => by
    unfold floats
    split
    · exact List.nodup_cons.2 ⟨fun h => absurd (floats_spec h).2 (Nat.lt_irrefl _), floats_nodup⟩
    · exact floats_nodup
theorem float_any {Q : Exit → Act → World → Prop} {a : Act} {w : World} (hsel : Region.noSelect ops = true) (hQ : ∀ c a w, ¬ Q (.panic c) a w) (hQs : ∀ a w w1, J.rel w w1 → Q .normal a w → Q .normal a w1)
    (h : wpAnyJ J .any (floated ops) Q (floated ops).size (Array.replicate (floated ops).size false) a w) : wpAnyJ J .any ops Q ops.size (Array.replicate ops.size false) a w := by
  have hs : (floated ops).size = ops.size := floated_size (F := floats ops ops.size)
  rw [hs] at h
  have hlen : (floats ops ops.size).length ≤ ops.size := by
    have : ∀ n, (floats ops n).length ≤ n := fun n => by
      induction n with
      | zero => simp [floats]
      | succ n ih => unfold floats; split <;> first | (simp only [List.length_cons]; omega) | omega
    exact this _
  obtain ⟨n, hn⟩ : ∃ n, ops.size = n + (floats ops ops.size).length := ⟨ops.size - (floats ops ops.size).length, by omega⟩
  have := float_step (P := P) (J := J) (F := floats ops ops.size) (Q := Q) hsel hQ hQs (fun f hf => (floats_spec hf).1) (floats ops ops.size) n (Array.replicate ops.size false) a w (fun f hf => ⟨hf, by
    have := (floats_spec hf).2
    simp [this]⟩) floats_nodup (fun f hf hn => absurd hf hn)
  rw [← hn] at this
  exact this h
/-- How a region whose order is open is carried out. -/
theorem headAt_any {ops' : Array Oper} {h : Nat} {fl : Bool} (hh : headAt ops = some (ops', h, fl)) : openB ops' h = true ∧ (fl = false → ops' = ops) ∧ ∀ {Q : Exit → Act → World → Prop} {a : Act} {w : World}, (fl = true → ∀ c a w, ¬ Q (.panic c) a w) → (∀ a w w1, J.rel w w1 → Q .normal a w → Q .normal a w1) →
    wpAnyJ J .any ops' Q ops'.size (Array.replicate ops'.size false) a w → wpAnyJ J .any ops Q ops.size (Array.replicate ops.size false) a w := by
  unfold headAt at hh
  split at hh
  · rename_i n hn
    split at hh
    · rename_i hc
      rw [Bool.and_eq_true] at hc
      split at hh
      · rename_i n' hn'
        cases hh
        exact ⟨headOf_spec hn', (fun e => by cases e), fun hQ hQs h => float_any hc.2 (hQ rfl) hQs h⟩
      · cases hh
    · cases hh
      exact ⟨headOf_spec hn, fun _ => rfl, fun _ _ h => h⟩
  · cases hh


/-! ## Regions in parts -/

theorem waitSet_not {i : Nat} {listed : Array Bool} (hcl : ∀ j oj, ops[j]? = some oj → listed.getD j false = true → ∀ e ∈ oj.after, Region.binds .any e = true → listed.getD e.on false = true) (hi : listed.getD i false = false) :
    ∀ {m j : Nat}, j ∈ waitSet ops i m → listed.getD j false = false ∧ ∃ oj e, ops[j]? = some oj ∧ e ∈ oj.after ∧ Region.binds .any e = true ∧ listed.getD e.on false = false
  | 0, j, h => by cases h
  | m + 1, j, h => by
    unfold waitSet waitStep at h
    split at h
    · rename_i hq
      rcases List.mem_cons.1 h with rfl | h
      · split at hq
        · rename_i o ho
          obtain ⟨e, he, hb⟩ := Array.any_eq_true'.1 hq
          simp only [Bool.and_eq_true, Bool.or_eq_true] at hb
          have hun : listed.getD e.on false = false := by
            rcases hb.2 with h1 | h1
            · rw [Nat.eq_of_beq_eq_true h1]; exact hi
            · obtain ⟨x, hx, hx2⟩ := List.any_eq_true.1 h1
              rw [Nat.eq_of_beq_eq_true hx2]
              exact (waitSet_not hcl hi hx).1
          refine ⟨?_, o, e, ho, he, hb.1, hun⟩
          cases hl : listed.getD j false with
          | false => rfl
          | true => rw [hcl j o ho hl e he hb.1] at hun; cases hun
        · cases hq
      · exact waitSet_not hcl hi h
    · exact waitSet_not hcl hi h

theorem firstsA_ok {n : Nat} : Firsts ops n (firstsA ops n) := by
  refine ⟨by simp [firstsA], fun j d hj => ?_⟩
  unfold firstsA
  simp only [Array.getD_eq_getD_getElem?, List.getElem?_toArray, List.getElem?_map, List.getElem?_range hj, Option.map_some, Option.getD_some]
  cases h : Nat.blt j n with
  | true => exact (decide_eq_true (Nat.le_of_ble_eq_true h)).symm
  | false =>
    refine (decide_eq_false fun hlt => ?_).symm
    have : Nat.blt j n = true := Nat.ble_eq_true_of_le hlt
    rw [this] at h; cases h

theorem segB_facts : ∀ (f k : Nat) (listed : Array Bool), Firsts ops k listed → k + f ≤ ops.size → segB ops f k listed = true →
    ∀ i, k ≤ i → i < k + f → ∀ j oi oj, i < j → ops[i]? = some oi → ops[j]? = some oj → (∃ e ∈ oj.after, Region.binds .any e = true ∧ e.on = i) ∨ oi.apart ops oj = true
  | 0, k, listed, hF, _, h => fun i h1 h2 => by omega
  | f + 1, k, listed, hF, hle, h => by
    simp only [segB, Bool.and_eq_true] at h
    obtain ⟨⟨hr, hf⟩, h'⟩ := h
    have q1 := segB_facts f (k + 1) _ (hF.set (by omega)) (by omega) h'
    intro i h1 h2
    by_cases hik : i = k
    · subst hik
      intro j oi oj hij hoi hoj
      by_cases hw : ∃ e ∈ oj.after, Region.binds .any e = true ∧ e.on = i
      · exact .inl hw
      · refine .inr (Region.free_spec hoi hf j oj hoj (by omega) ?_ fun e he hb heq => hw ⟨e, he, hb, heq⟩)
        have hj : j < ops.size := (Array.getElem?_eq_some_iff.1 hoj).1
        rw [hF.2 j true hj]
        exact decide_eq_false (by omega)
    · exact q1 i (by omega) (by omega)

theorem backB_spec (h : backB ops = true) : ∀ k o, ops[k]? = some o → ∀ e ∈ o.after, Region.binds .any e = true → e.on < k := by
  intro k o ho e he hb
  have hk : k < ops.size := (Array.getElem?_eq_some_iff.1 ho).1
  have := List.all_eq_true.1 h k (List.mem_range.2 hk)
  rw [ho] at this
  simp only at this
  have := Array.all_eq_true_iff_forall_mem.1 this e he
  rw [hb] at this
  simp only [Bool.not_true, Bool.false_or] at this
  exact Nat.le_of_ble_eq_true this

theorem Firsts.inv {n : Nat} {l : Array Bool} (h : Firsts ops n l) (hn : n ≤ ops.size) (hb : backB ops = true) {m : Nat} (hm : n ≤ m) : HeadInv .any ops m l := by
  refine ⟨h.1, fun j oj hj hl e he hbi => ?_, fun t ht hts => by rw [h.2 t true hts]; exact decide_eq_false (by omega)⟩
  have hjs : j < ops.size := (Array.getElem?_eq_some_iff.1 hj).1
  rw [h.2 j false hjs] at hl
  have h1 := of_decide_eq_true hl
  have h2 := backB_spec hb j oj hj e he hbi
  rw [h.2 e.on false (by omega)]
  exact decide_eq_true (by omega)

theorem any_seg {Q : Exit → Act → World → Prop} {a : Act} {w : World} {k n : Nat} {Iv : Array Bool → Act → World → Prop} (hback : backB ops = true) (hkn : k < n) (hn : n ≤ ops.size) (hpiv : n = ops.size ∨ pivotB ops k n = true) (hseg : segB ops (n - k) k (firstsA ops k) = true)
    (h0 : Iv (firstsA ops k) a w)
    (hstep : (∀ i, k ≤ i → i < n → ∀ j oi oj, i < j → ops[i]? = some oi → ops[j]? = some oj → (∃ e ∈ oj.after, Region.binds .any e = true ∧ e.on = i) ∨ oi.apart ops oj = true) →
      ∀ listed i a w, HeadInv .any ops n listed → (∀ j, j < k → listed.getD j false = true) → i ∈ Region.ready .any ops listed → k ≤ i → i < n → Iv listed a w → wpOpJ J ops Q i (fun a' w' => Iv (listed.setIfInBounds i true) a' w') a w)
    (hend : ∀ a w, Iv (firstsA ops n) a w → wpAnyJ J .any ops Q (ops.size - n) (firstsA ops n) a w) : wpAnyJ J .any ops Q (ops.size - k) (firstsA ops k) a w := by
  have hF : Firsts ops k (firstsA ops k) := firstsA_ok
  have hpw := segB_facts (n - k) k _ hF (by omega) hseg
  rw [show k + (n - k) = n by omega] at hpw
  have inv0 := hF.inv (by omega) hback (Nat.le_of_lt hkn)
  have hin : ∀ listed, HeadInv .any ops n listed → ∀ i, i < n → listed.getD i true = false → ∀ j ∈ Region.ready .any ops listed, j < n ∨ i < k := fun listed inv i hi hun j hj => by
    rcases Nat.lt_or_ge j n with h | h
    · exact .inl h
    · refine .inr ?_
      rcases Nat.lt_or_ge i k with h' | h'
      · exact h'
      · exfalso
        obtain ⟨hju, oj, hoj, hall⟩ := mem_ready.1 hj
        have hjs : j < ops.size := (Array.getElem?_eq_some_iff.1 hoj).1
        rcases hpiv with rfl | hp
        · omega
        · unfold pivotB at hp
          rw [Bool.and_eq_true] at hp
          obtain ⟨hp1, hp2⟩ := hp
          have h2 := List.all_eq_true.1 hp2 i (List.mem_range.2 hi)
          have hw : n ∈ waitSet ops i (n + 1) := by
            rw [Bool.or_eq_true] at h2
            rcases h2 with h2 | h2
            · have := Nat.le_of_ble_eq_true h2
              exact absurd this (by show ¬ i + 1 ≤ k; omega)
            · obtain ⟨x, hx, hx2⟩ := List.any_eq_true.1 h2
              exact (show n = x from Nat.eq_of_beq_eq_true hx2) ▸ hx
          obtain ⟨n1, on, en, n2, n3, n4, n5⟩ := waitSet_not inv.closed (getD_both hun) hw
          have key : ∃ oj' e, ops[j]? = some oj' ∧ e ∈ oj'.after ∧ Region.binds .any e = true ∧ listed.getD e.on false = false := by
            by_cases hjn : j = n
            · subst hjn; exact ⟨on, en, n2, n3, n4, n5⟩
            · have h1 := List.all_eq_true.1 hp1 j (List.mem_range.2 hjs)
              rw [Bool.or_eq_true] at h1
              rcases h1 with h1 | h1
              · have := Nat.le_of_ble_eq_true h1; omega
              · obtain ⟨x, hx, hx2⟩ := List.any_eq_true.1 h1
                obtain rfl := Nat.eq_of_beq_eq_true hx2
                exact (waitSet_not inv.closed n1 hx).2
          obtain ⟨oj', e, e1, e2, e3, e4⟩ := key
          obtain rfl : oj = oj' := Option.some.inj (hoj.symm.trans e1)
          rw [hall e e2 e3] at e4; cases e4
  have hleft : left (firstsA ops k) n = n - k := by
    have : ∀ m, m ≤ n → left (firstsA ops k) m = m - k := fun m => by
      induction m with
      | zero => intro _; simp [left]
      | succ m ih =>
        intro hm
        simp only [left]
        rw [ih (by omega), hF.2 m true (by omega)]
        by_cases hmk : m < k
        · rw [decide_eq_true hmk]; simp only [Bool.true_eq_false, if_false]; omega
        · rw [decide_eq_false hmk]; simp only [if_true]; omega
    exact this n (Nat.le_refl _)
  have lowS : ∀ {listed : Array Bool} {i : Nat}, HeadInv .any ops n listed → listed.getD i true = false → (∀ j, j < k → listed.getD j false = true) → k ≤ i := fun {listed i} inv hun hlow => by
    rcases Nat.lt_or_ge i k with h | h
    · have := hlow i h; rw [getD_both hun] at this; cases this
    · exact h
  have sched2 : ∀ (f : Nat) (listed : Array Bool) (a : Act) (w : World), HeadInv .any ops n listed → left listed n = f → (∀ j, j < k → listed.getD j false = true) → Iv listed a w → wpAnyJ J .any ops Q (f + (ops.size - n)) listed a w := by
    intro f
    induction f with
    | zero =>
      intro listed a w inv hl hlow hJ
      rw [Nat.zero_add]
      have hall := left_zero hl
      have hFn : Firsts ops n listed := ⟨inv.size, fun j d hj => by
        rcases Nat.lt_or_ge j n with h | h
        · have := hall j h
          have hs : j < listed.size := by rw [inv.size]; exact hj
          simp only [Array.getD_eq_getD_getElem?, Array.getElem?_eq_getElem hs, Option.getD_some] at this ⊢
          rw [this, decide_eq_true h]
        · have := inv.tail j h hj
          have hs : j < listed.size := by rw [inv.size]; exact hj
          simp only [Array.getD_eq_getD_getElem?, Array.getElem?_eq_getElem hs, Option.getD_some] at this ⊢
          rw [this, decide_eq_false (by omega)]⟩
      obtain rfl := hFn.eq firstsA_ok
      exact hend a w hJ
    | succ f ih =>
      intro listed a w inv hl hlow hJ
      rw [show f + 1 + (ops.size - n) = (f + (ops.size - n)) + 1 by omega]
      obtain ⟨m, hm, hun, hlo⟩ := left_least (listed := listed) (n := n) (by omega)
      have hms : m < ops.size := by omega
      have hmr : m ∈ Region.ready .any ops listed := by
        refine mem_ready.2 ⟨hun, ops[m], Array.getElem?_eq_getElem hms, fun e he hb => ?_⟩
        have h1 := backB_spec hback m _ (Array.getElem?_eq_getElem hms) e he hb
        have h2 := hlo e.on h1
        have h3 : e.on < listed.size := by rw [inv.size]; omega
        simpa [h3] using h2
      refine ⟨fun h0 => (by rw [h0] at hmr; cases hmr), fun i hi => ?_⟩
      have hkm := lowS inv hun hlow
      have hin' : i < n := by
        rcases hin listed inv m hm hun i hi with h | h
        · exact h
        · omega
      have hki := lowS inv (mem_ready.1 hi).1 hlow
      refine wpOpJ_mono (fun a' w' h' => ?_) (hstep hpw listed i a w inv hlow hi hki hin' hJ)
      have := left_set (mem_ready.1 hi).1 hin'
      exact ih _ a' w' (inv.set hi hin') (by omega) (fun j hj => getD_set_true (hlow j hj)) h'
  have := sched2 (n - k) _ a w inv0 hleft (fun j hj => by rw [hF.2 j false (by omega)]; exact decide_eq_true hj) h0
  rwa [show n - k + (ops.size - n) = ops.size - k by omega] at this

/-- One operation that stands next. -/
theorem any_one {Q : Exit → Act → World → Prop} {a : Act} {w : World} {k : Nat} (hk : k < ops.size) (hr : Region.ready .any ops (firstsA ops k) = [k]) (h : wpOpJ J ops Q k (fun a' w' => wpAnyJ J .any ops Q (ops.size - (k + 1)) (firstsA ops (k + 1)) a' w') a w) :
    wpAnyJ J .any ops Q (ops.size - k) (firstsA ops k) a w := by
  rw [show ops.size - k = (ops.size - (k + 1)) + 1 by omega]
  refine ⟨fun h0 => (by rw [hr] at h0; cases h0), fun i hi => ?_⟩
  rw [hr] at hi
  obtain rfl : i = k := by simpa using hi
  have : (firstsA ops i).setIfInBounds i true = firstsA ops (i + 1) := (firstsA_ok.set hk).eq firstsA_ok
  rw [this]; exact h
theorem firstsA_zero : firstsA ops 0 = Array.replicate ops.size false := firstsA_ok.eq firsts0
theorem any_done {Q : Exit → Act → World → Prop} {a : Act} {w : World} {k : Nat} (hk : ops.size ≤ k) (h : Q .normal a w) : wpAnyJ J .any ops Q (ops.size - k) (firstsA ops k) a w := by
  rw [show ops.size - k = 0 by omega]
  refine ⟨?_, h⟩
  rw [List.eq_nil_iff_forall_not_mem]
  intro i hi
  obtain ⟨hun, oj, hoj, _⟩ := mem_ready.1 hi
  have hjs : i < ops.size := (Array.getElem?_eq_some_iff.1 hoj).1
  rw [firstsA_ok.2 i true hjs, decide_eq_true (by omega)] at hun
  cases hun

end
end Go.Ax
