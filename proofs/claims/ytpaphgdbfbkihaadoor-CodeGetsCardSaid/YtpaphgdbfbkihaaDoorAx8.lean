/- A region whose order is open: the first n operations stand in whatever order their edges allow, then a forced tail. What is known is a fact of those that have been carried out. -/
import Derived.Test.YtpaphgdbfbkihaaDoorAx7b
namespace Go.Ax
open Go Go.RowKit

section
variable {P : Program} {ops : Array Oper} {md : Region.Mode}

/-- How many of the first n are not yet listed. -/
def left (listed : Array Bool) : Nat → Nat
  | 0 => 0
  | n + 1 => (if listed.getD n true = false then 1 else 0) + left listed n

theorem left_set_ge {listed : Array Bool} {i : Nat} : ∀ {n : Nat}, n ≤ i → left (listed.setIfInBounds i true) n = left listed n
  | 0, _ => rfl
  | n + 1, h => by simp only [left]; rw [getD_set_ne true (by omega), left_set_ge (by omega)]

theorem in_of_unlisted {listed : Array Bool} {i : Nat} (h : listed.getD i true = false) : i < listed.size := by
  rcases Nat.lt_or_ge i listed.size with h' | h'
  · exact h'
  · simp [Array.getElem?_eq_none h'] at h

theorem getD_set_self {listed : Array Bool} {i : Nat} (d : Bool) (h : listed.getD i true = false) : (listed.setIfInBounds i true).getD i d = true := by
  have := in_of_unlisted h
  simp [this]

theorem left_set {listed : Array Bool} {i : Nat} (hi : listed.getD i true = false) : ∀ {n : Nat}, i < n → left listed n = left (listed.setIfInBounds i true) n + 1
  | n + 1, h => by
    simp only [left]
    by_cases hin : i = n
    · subst hin
      rw [left_set_ge (Nat.le_refl _), getD_set_self true hi, if_pos hi]
      simp only [Bool.true_eq_false, if_false]
      omega
    · rw [getD_set_ne true hin, left_set hi (by omega)]; omega

theorem left_zero {listed : Array Bool} : ∀ {n : Nat}, left listed n = 0 → ∀ i, i < n → listed.getD i true = true
  | n + 1, h, i, hi => by
    simp only [left] at h
    by_cases hin : i = n
    · subst hin
      cases hq : listed.getD i true with
      | true => rfl
      | false => rw [if_pos hq] at h; omega
    · exact left_zero (n := n) (by omega) i (by omega)

theorem left_least {listed : Array Bool} : ∀ {n : Nat}, left listed n ≠ 0 → ∃ i, i < n ∧ listed.getD i true = false ∧ ∀ j, j < i → listed.getD j true = true
  | n + 1, h => by
    by_cases hl : left listed n = 0
    · refine ⟨n, Nat.lt_succ_self n, ?_, left_zero hl⟩
      simp only [left, hl, Nat.add_zero] at h
      cases hq : listed.getD n true with
      | false => rfl
      | true => rw [hq] at h; simp at h
    · obtain ⟨i, h1, h2, h3⟩ := left_least hl
      exact ⟨i, by omega, h2, h3⟩

theorem sched {n g : Nat} {Q : Exit → Act → World → Prop} {J : Array Bool → Act → World → Prop} (hn : n ≤ ops.size)
    (hedge : ∀ k o, k < n → ops[k]? = some o → ∀ e ∈ o.after, Region.binds md e = true → e.on < k)
    (hin : ∀ listed, HeadInv md ops n listed → ∀ i, i < n → listed.getD i true = false → ∀ j ∈ Region.ready md ops listed, j < n)
    (hstep : ∀ listed i a w, HeadInv md ops n listed → i ∈ Region.ready md ops listed → i < n → J listed a w → wpOp P ops Q i (fun a' w' => J (listed.setIfInBounds i true) a' w') a w)
    (hend : ∀ listed a w, HeadInv md ops n listed → (∀ i, i < n → listed.getD i true = true) → J listed a w → wpAny P md ops Q g listed a w) :
    ∀ (f : Nat) (listed : Array Bool) (a : Act) (w : World), HeadInv md ops n listed → left listed n = f → J listed a w → wpAny P md ops Q (f + g) listed a w
  | 0, listed, a, w, inv, hl, hJ => by rw [Nat.zero_add]; exact hend listed a w inv (left_zero hl) hJ
  | f + 1, listed, a, w, inv, hl, hJ => by
    rw [show f + 1 + g = (f + g) + 1 by omega]
    obtain ⟨k, hk, hun, hlow⟩ := left_least (listed := listed) (n := n) (by omega)
    have hks : k < ops.size := by omega
    have hkr : k ∈ Region.ready md ops listed := by
      refine mem_ready.2 ⟨hun, ops[k], Array.getElem?_eq_getElem hks, fun e he hb => ?_⟩
      have h1 := hedge k _ hk (Array.getElem?_eq_getElem hks) e he hb
      have h2 := hlow e.on h1
      have h3 : e.on < listed.size := by rw [inv.size]; omega
      simpa [h3] using h2
    refine ⟨fun h0 => (by rw [h0] at hkr; cases hkr), fun i hi => ?_⟩
    have hin' := hin listed inv k hk hun i hi
    refine wpOp_mono (fun a' w' h' => ?_) (hstep listed i a w inv hi hin' hJ)
    have := left_set (mem_ready.1 hi).1 hin'
    exact sched hn hedge hin hstep hend f _ a' w' (inv.set hi hin') (by omega) h'

/-- Of two operations the later one waits for the earlier one, or they have nothing in common. -/
def PW (md : Region.Mode) (ops : Array Oper) (n : Nat) : Prop :=
  ∀ i, i < n → ∀ j oi oj, i < j → ops[i]? = some oi → ops[j]? = some oj → (∃ e ∈ oj.after, Region.binds md e = true ∧ e.on = i) ∨ oi.apart ops oj = true

/-- The first k are listed. -/
def Firsts (ops : Array Oper) (k : Nat) (listed : Array Bool) : Prop := listed.size = ops.size ∧ ∀ j d, j < ops.size → listed.getD j d = decide (j < k)

theorem Firsts.set {k : Nat} {listed : Array Bool} (h : Firsts ops k listed) (hk : k < ops.size) : Firsts ops (k + 1) (listed.setIfInBounds k true) := by
  refine ⟨by simp [h.1], fun j d hj => ?_⟩
  by_cases hjk : k = j
  · subst hjk
    rw [getD_set_self d (by rw [h.2 k true hk]; simp)]
    simp
  · rw [getD_set_ne d hjk, h.2 j d hj]
    exact decide_eq_decide.2 (by omega)

theorem Firsts.eq {k : Nat} {l l' : Array Bool} (h : Firsts ops k l) (h' : Firsts ops k l') : l = l' := by
  refine Array.ext (h.1.trans h'.1.symm) fun i h1 h2 => ?_
  have e1 := h.2 i true (by rw [← h.1]; exact h1)
  have e2 := h'.2 i true (by rw [← h.1]; exact h1)
  simp only [Array.getD_eq_getD_getElem?, Array.getElem?_eq_getElem h1, Array.getElem?_eq_getElem h2, Option.getD_some] at e1 e2
  rw [e1, e2]

theorem lexHead_facts {g : Nat} : ∀ (f k : Nat) (listed : Array Bool), Firsts ops k listed → k + f ≤ ops.size → Region.lexHead md ops g f k listed = true →
    (∀ i, k ≤ i → i < k + f → (∀ o, ops[i]? = some o → ∀ e ∈ o.after, Region.binds md e = true → e.on < i) ∧
      ∀ j oi oj, i < j → ops[i]? = some oi → ops[j]? = some oj → (∃ e ∈ oj.after, Region.binds md e = true ∧ e.on = i) ∨ oi.apart ops oj = true) ∧
    ∃ l, Firsts ops (k + f) l ∧ Region.seqB md ops g (k + f) l = true
  | 0, k, listed, hF, _, h => ⟨fun i h1 h2 => by omega, listed, hF, by simpa [Region.lexHead] using h⟩
  | f + 1, k, listed, hF, hle, h => by
    simp only [Region.lexHead, Bool.and_eq_true] at h
    obtain ⟨⟨hr, hf⟩, h'⟩ := h
    have hr' : k ∈ Region.ready md ops listed := by simpa using hr
    obtain ⟨q1, q2⟩ := lexHead_facts f (k + 1) _ (hF.set (by omega)) (by omega) h'
    refine ⟨fun i h1 h2 => ?_, by rw [show k + (f + 1) = k + 1 + f by omega]; exact q2⟩
    by_cases hik : i = k
    · subst hik
      obtain ⟨_, o', ho', hall⟩ := mem_ready.1 hr'
      refine ⟨fun o ho e he hb => ?_, fun j oi oj hij hoi hoj => ?_⟩
      · obtain rfl : o = o' := Option.some.inj (ho.symm.trans ho')
        have h3 := hall e he hb
        rcases Nat.lt_or_ge e.on ops.size with h4 | h4
        · rw [hF.2 e.on false h4] at h3
          exact of_decide_eq_true h3
        · have h5 : ¬ e.on < listed.size := by rw [hF.1]; omega
          simp [h5] at h3
      · by_cases hw : ∃ e ∈ oj.after, Region.binds md e = true ∧ e.on = i
        · exact .inl hw
        · refine .inr (Region.free_spec hoi hf j oj hoj (by omega) ?_ fun e he hb heq => hw ⟨e, he, hb, heq⟩)
          have hj : j < ops.size := (Array.getElem?_eq_some_iff.1 hoj).1
          rw [hF.2 j true hj]
          exact decide_eq_false (by omega)
    · exact q1 i (by omega) (by omega)

theorem lexFrom_head : ∀ (f k : Nat) (listed : Array Bool), Region.lexFrom md ops f k listed = Region.lexHead md ops 0 f k listed
  | 0, _, _ => rfl
  | f + 1, k, listed => by simp only [Region.lexFrom, Region.lexHead, lexFrom_head f]

theorem firsts0 : Firsts ops 0 (Array.replicate ops.size false) := ⟨by simp, fun j d hj => by simp [hj]⟩

theorem wp_region_open {id : Nat} {Q : Exit → Act → World → Prop} {a : Act} {w : World} {n : Nat} {J : Array Bool → Act → World → Prop} (hm : P.follows .mixedOrders = true) (hB : openB ops n = true)
    (h0 : J (Array.replicate ops.size false) a { w with drawn := w.drawn + 1 })
    (hstep : n ≤ ops.size → PW .any ops n → ∀ listed i a w, HeadInv .any ops n listed → i ∈ Region.ready .any ops listed → i < n → J listed a w → wpOp P ops Q i (fun a' w' => J (listed.setIfInBounds i true) a' w') a w)
    (hend : ∀ listed a w, (∀ i, i < n → listed.getD i true = true) → J listed a w → wpList P ops Q (ops.toList.drop n) a w) : (Code.region id ops true).wp P Q a w := by
  have key : n ≤ ops.size ∧ Region.lexHead .any ops (ops.size - n) n 0 (Array.replicate ops.size false) = true ∧
      ∀ listed, HeadInv .any ops n listed → ∀ i, i < n → listed.getD i true = false → ∀ j ∈ Region.ready .any ops listed, j < n := by
    unfold openB at hB
    split at hB
    · rename_i he
      have he := Nat.eq_of_beq_eq_true he
      subst he
      simp only [Region.lexB, Bool.and_eq_true] at hB
      refine ⟨Nat.le_refl _, by rw [Nat.sub_self, ← lexFrom_head]; exact hB.2, fun listed _ _ _ _ j hj => ?_⟩
      obtain ⟨_, o, ho, _⟩ := mem_ready.1 hj
      exact (Array.getElem?_eq_some_iff.1 ho).1
    · simp only [Region.lexTailB, Bool.and_eq_true, decide_eq_true_eq] at hB
      obtain ⟨⟨⟨⟨_, hn⟩, hs⟩, hc⟩, hlex⟩ := hB
      refine ⟨Nat.le_of_lt hn, hlex, fun listed inv i hi hun j hj => ?_⟩
      rcases Nat.lt_or_ge j n with h | h
      · exact h
      · exact absurd hj (tail_waits hs hc hn inv _ i rfl hi hun j h)
  obtain ⟨hn, hlex, hin⟩ := key
  obtain ⟨q1, l, hl, hseq⟩ := lexHead_facts n 0 _ firsts0 (by omega) hlex
  rw [Nat.zero_add] at hl hseq
  have hpw : PW .any ops n := fun i hi j oi oj hij => (q1 i (Nat.zero_le _) (by omega)).2 j oi oj hij
  have inv0 : HeadInv .any ops n (Array.replicate ops.size false) :=
    ⟨by simp, fun j oj _ hl => (by rw [getD_replicate_false] at hl; cases hl), fun t _ ht => getD_in (by simpa using ht) (getD_replicate_false _ _)⟩
  have hleft : left (Array.replicate ops.size false) n = n := by
    have : ∀ k, k ≤ ops.size → left (Array.replicate ops.size false) k = k := fun k => by
      induction k with
      | zero => intro _; rfl
      | succ k ih =>
        intro hk
        simp only [left]
        rw [ih (by omega), if_pos (getD_in (by simp; omega) (getD_replicate_false _ _))]
        omega
    exact this n hn
  refine wp_region_any hm ?_
  have := sched (P := P) (Q := Q) (g := ops.size - n) hn (fun k o hk ho => (q1 k (Nat.zero_le _) (by omega)).1 o ho) hin (hstep hn hpw)
    (fun listed a' w' inv hall hJ => by
      have hF : Firsts ops n listed := ⟨inv.size, fun j d hj => by
        rcases Nat.lt_or_ge j n with h | h
        · have := hall j h
          have hs : j < listed.size := by rw [inv.size]; exact hj
          simp only [Array.getD_eq_getD_getElem?, Array.getElem?_eq_getElem hs, Option.getD_some] at this ⊢
          rw [this, decide_eq_true h]
        · have := inv.tail j h hj
          have hs : j < listed.size := by rw [inv.size]; exact hj
          simp only [Array.getD_eq_getD_getElem?, Array.getElem?_eq_getElem hs, Option.getD_some] at this ⊢
          rw [this, decide_eq_false (by omega)]⟩
      obtain rfl := hF.eq hl
      have hdl : (ops.toList.drop n).length = ops.size - n := by simp
      have := wpAny_of_seq (md := .any) (Q' := Q) (ops.toList.drop n) n listed a' w' (fun j => by simp [List.getElem?_drop]) (by rw [hdl]; exact hseq) (hend listed a' w' hall hJ)
      rwa [hdl] at this)
    n _ a _ inv0 hleft h0
  rwa [show n + (ops.size - n) = ops.size by omega] at this

end
end Go.Ax
