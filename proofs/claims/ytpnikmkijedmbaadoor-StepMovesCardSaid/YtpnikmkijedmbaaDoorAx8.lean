/- A region whose order is open: operations that leave what is known of memory, in whatever order, then a forced tail. (After the library's Derived/Still.lean and StillTail.lean, which hold the world itself still; here what holds of the world stays, and the world may grow.) -/
import Derived.Test.YtpnikmkijedmbaaDoorAx7
namespace Go.Ax
open Go Go.RowKit

section
variable {P : Program} {ops : Array Oper} {md : Region.Mode} {I : World → Prop}

/-- In every world of the kind, the operation comes to the value v, and leaves a world of the kind. -/
def YI (P : Program) (I : World → Prop) (ops : Array Oper) (o : Oper) (v : Value) (a : Act) : Prop :=
  (Region.wanted o (yielded ops a.tmps) = true ∧ ∀ w, I w → ∃ w', I w' ∧ ((execOp a.eval o).run P w = .ok (.value v) w' ∨
    ∃ f args, (execOp a.eval o).run P w = .ok (.enter f args) w' ∧ Calls P f args w' (fun e w'' => e = .returned v ∧ I w''))) ∨
  (Region.wanted o (yielded ops a.tmps) = false ∧ v = undef)

theorem YI.of_same {o : Oper} {v : Value} {a a' : Act} (hy : YI P I ops o v a) (he : execOp a'.eval o = execOp a.eval o)
    (hw : Region.wanted o (yielded ops a'.tmps) = Region.wanted o (yielded ops a.tmps)) : YI P I ops o v a' := by
  unfold YI at *
  rw [he, hw]
  exact hy

theorem YI.wpOp {Q : Exit → Act → World → Prop} {i : Nat} {o : Oper} {v : Value} {a : Act} {w : World} (hi : ops[i]? = some o) (hy : YI P I ops o v a) (hw : I w)
    {K : Act → World → Prop} (h : ∀ w', I w' → K (a.put o.dst v) w') : wpOp P ops Q i K a w := by
  unfold Go.wpOp
  simp only [hi]
  rcases hy with ⟨hwt, hv⟩ | ⟨hwt, rfl⟩
  · simp only [hwt, if_true]
    obtain ⟨w', hI, hr | ⟨f, args, hr, hc⟩⟩ := hv w hw
    · exact .inl (by simp only [Oper.wp, hr, Oper.upon]; exact h w' hI)
    · refine .inl ?_
      simp only [Oper.wp, hr, Oper.upon]
      exact hc.mono fun e w'' ⟨he, hI''⟩ => by subst he; exact h w'' hI''
  · simp only [hwt, Bool.false_eq_true, if_false]
    exact h w hw

/-- An operation that is apart from another one may stand behind it. -/
theorem YI.apart {oi oj : Oper} {v u : Value} {a : Act} (hap : oi.apart ops oj = true) (hsj : ∀ cs b, oj.op ≠ .select cs b) (h : YI P I ops oj u (a.put oi.dst v)) : YI P I ops oj u a := by
  obtain ⟨h1, h2, h3⟩ := Oper.apart_spec hap
  exact h.of_same (execOp_put oj hsj a oi.dst v h1).symm (wanted_put oj a oi.dst v h1).symm

theorem YI.apart' {oi oj : Oper} {v u : Value} {a : Act} (hap : oi.apart ops oj = true) (hsi : ∀ cs b, oi.op ≠ .select cs b) (h : YI P I ops oi v a) : YI P I ops oi v (a.put oj.dst u) := by
  obtain ⟨h1, h2, h3⟩ := Oper.apart_spec hap
  exact h.of_same (execOp_put oi hsi a oj.dst u h3) (wanted_put oi a oj.dst u h3)

/-- Whatever order the edges allow: f operations, each of the kind; then L. -/
def anyY (P : Program) (md : Region.Mode) (ops : Array Oper) (I : World → Prop) (ok : Nat → Prop) (L : Array Bool → Act → Prop) : Nat → Array Bool → Act → Prop
  | 0, listed, a => L listed a
  | f + 1, listed, a =>
    Region.ready md ops listed ≠ [] ∧ ∀ i ∈ Region.ready md ops listed, ok i ∧ ∃ o v, ops[i]? = some o ∧ YI P I ops o v a ∧ anyY P md ops I ok L f (listed.setIfInBounds i true) (a.put o.dst v)

theorem wpAny_of_anyY {ok : Nat → Prop} {g : Nat} {L : Array Bool → Act → Prop} {Q : Exit → Act → World → Prop} (hL : ∀ listed a, L listed a → ∀ w, I w → wpAny P md ops Q g listed a w) :
    ∀ (f : Nat) (listed : Array Bool) (a : Act), anyY P md ops I ok L f listed a → ∀ w, I w → wpAny P md ops Q (f + g) listed a w
  | 0, listed, a, h, w, hw => by rw [Nat.zero_add]; exact hL _ _ h w hw
  | f + 1, listed, a, h, w, hw => by
    rw [show f + 1 + g = (f + g) + 1 by omega]
    refine ⟨fun h0 => absurd h0 h.1, fun i hi => ?_⟩
    obtain ⟨_, o, v, ho, hy, hn⟩ := h.2 i hi
    exact hy.wpOp ho hw fun w' hw' => wpAny_of_anyY hL f _ _ hn w' hw'

theorem anyY_first {ok : Nat → Prop} {i : Nat} {oi : Oper} {v : Value} {L : Array Bool → Act → Prop} (hi : ops[i]? = some oi) (hsel : ∀ (j : Nat) (o : Oper) cs b, ops[j]? = some o → o.op ≠ .select cs b)
    (Inv : Array Bool → Prop) (hInv : ∀ listed j, Inv listed → j ∈ Region.ready md ops listed → ok j → Inv (listed.setIfInBounds j true))
    (hok : ∀ listed, Inv listed → listed.getD i true = false → ∀ j ∈ Region.ready md ops listed, ok j)
    (hdone : ∀ listed a, Inv listed → i ∈ Region.ready md ops listed → L (listed.setIfInBounds i true) a → ∀ j ∈ Region.ready md ops listed, j = i) :
    ∀ (f : Nat) (listed : Array Bool) (a : Act), Inv listed →
      (∀ j oj, ops[j]? = some oj → j ≠ i → listed.getD j true = false → (∀ e ∈ oj.after, Region.binds md e = true → e.on ≠ i) → oi.apart ops oj = true) →
      i ∈ Region.ready md ops listed → YI P I ops oi v a →
      anyY P md ops I ok L f (listed.setIfInBounds i true) (a.put oi.dst v) → anyY P md ops I ok L (f + 1) listed a := by
  intro f
  induction f with
  | zero =>
    intro listed a inv _ hr hy H
    have hun := (mem_ready.1 hr).1
    refine ⟨fun h => (by rw [h] at hr; cases hr), fun j hj => ⟨hok listed inv hun j hj, ?_⟩⟩
    have hji := hdone listed _ inv hr H j hj
    subst hji
    exact ⟨oi, v, hi, hy, H⟩
  | succ f ih =>
    intro listed a inv hfree hr hy H
    have hun := (mem_ready.1 hr).1
    refine ⟨fun h => (by rw [h] at hr; cases hr), fun j hj => ?_⟩
    have hjok := hok listed inv hun j hj
    refine ⟨hjok, ?_⟩
    by_cases hji : j = i
    · subst hji
      exact ⟨oi, v, hi, hy, H⟩
    · obtain ⟨_, oj, u, hoj, hyj, hn⟩ := H.2 j (ready_mono hj hji)
      obtain ⟨hjun, oj', hoj', hall⟩ := mem_ready.1 hj
      obtain rfl : oj = oj' := Option.some.inj (hoj.symm.trans hoj')
      have hnot : ∀ e ∈ oj.after, Region.binds md e = true → e.on ≠ i := fun e he hb heq => by
        have h1 := hall e he hb
        rw [heq, getD_both hun] at h1
        cases h1
      have hap := hfree j oj hoj hji hjun hnot
      have hfree' : ∀ k ok, ops[k]? = some ok → k ≠ i → (listed.setIfInBounds j true).getD k true = false →
          (∀ e ∈ ok.after, Region.binds md e = true → e.on ≠ i) → oi.apart ops ok = true := fun k ok hk hki hun hno => by
        refine hfree k ok hk hki ?_ hno
        by_cases hjk : j = k
        · subst hjk; exact hjun
        · rw [getD_set_ne true hjk] at hun; exact hun
      refine ⟨oj, u, hoj, hyj.apart hap (fun cs b => hsel j oj cs b hoj), ?_⟩
      refine ih (listed.setIfInBounds j true) _ (hInv listed j inv hj hjok) hfree' (ready_mono hr (Ne.symm hji)) (hy.apart' hap (fun cs b => hsel i oi cs b hi)) ?_
      obtain ⟨_, h2, _⟩ := Oper.apart_spec hap
      rw [Array.setIfInBounds_comm _ _ hji, ← Act.put_comm a v u h2]
      exact hn

/-- The operations one by one, in the order of the text. -/
def seqY (P : Program) (I : World → Prop) (ops : Array Oper) (Q : Act → Prop) : List Oper → Act → Prop
  | [], a => Q a
  | o :: rest, a => ∃ v, YI P I ops o v a ∧ seqY P I ops Q rest (a.put o.dst v)

theorem anyY_lex {Q : Act → Prop} (hs : Region.noSelect ops = true) : ∀ (l : List Oper) (k : Nat) (listed : Array Bool) (a : Act), (∀ j, l[j]? = ops[k + j]?) →
    Region.lexFrom md ops l.length k listed = true → seqY P I ops Q l a → anyY P md ops I (fun _ => True) (fun listed a => Region.ready md ops listed = [] ∧ Q a) l.length listed a
  | [], _, _, _, _, hB, h => ⟨by simpa [Region.lexFrom] using hB, h⟩
  | o :: l, k, listed, a, hl, hB, h => by
    have h0 : ops[k]? = some o := by simpa using (hl 0).symm
    simp only [List.length_cons, Region.lexFrom, Bool.and_eq_true] at hB
    obtain ⟨⟨hr, hf⟩, hB'⟩ := hB
    obtain ⟨v, hy, hK⟩ := h
    exact anyY_first h0 (Region.noSelect_spec hs) (fun _ => True) (fun _ _ _ _ _ => trivial) (fun _ _ _ _ _ => trivial)
      (fun listed' a' _ hr' hL j hj => by
        by_cases hji : j = k
        · exact hji
        · have := ready_mono hj hji
          rw [hL.1] at this
          cases this)
      l.length listed a trivial (Region.free_spec h0 hf) (by simpa using hr) hy
      (anyY_lex hs l (k + 1) _ _ (fun j => by have := hl (j + 1); simpa [Nat.add_assoc, Nat.add_comm 1 j] using this) hB' hK)

/-- All operations of the region are of the kind. -/
theorem wp_region_pure {id : Nat} {Q : Exit → Act → World → Prop} {a : Act} {w : World} {ops : Array Oper} (hm : P.follows .mixedOrders = true) (hB : Region.lexB .any ops = true)
    (hI : I { w with drawn := w.drawn + 1 }) (h : seqY P I ops (fun a' => ∀ w', I w' → Q .normal a' w') ops.toList a) : (Code.region id ops true).wp P Q a w := by
  simp only [Region.lexB, Bool.and_eq_true] at hB
  refine wp_region_any hm ?_
  have h1 := anyY_lex (md := .any) hB.1 ops.toList 0 (Array.replicate ops.size false) a (by simp) (by simpa using hB.2) h
  have := wpAny_of_anyY (md := .any) (g := 0) (Q := Q) (fun listed a' hL w' hw' => ⟨hL.1, hL.2 w' hw'⟩) _ _ _ h1 _ hI
  simpa using this

theorem anyY_head {n g : Nat} {Lq : Act → Prop} (hsel : Region.noSelect ops = true) (hs : Region.sinkB md ops n = true) (hc : Region.chainB md ops n = true) (hn : n < ops.size) :
    ∀ (l : List Oper) (k : Nat) (listed : Array Bool) (a : Act), (∀ j, j < l.length → l[j]? = ops[k + j]?) → k + l.length = n → HeadInv md ops n listed →
    Region.lexHead md ops g l.length k listed = true → seqY P I ops Lq l a →
    anyY P md ops I (· < n) (fun listed' a' => Region.seqB md ops g n listed' = true ∧ Lq a') l.length listed a
  | [], k, listed, a, _, hk, _, hB, h => by
    have : k = n := by simpa using hk
    subst this
    exact ⟨by simpa [Region.lexHead] using hB, h⟩
  | o :: l, k, listed, a, hl, hk, inv, hB, h => by
    have h0 : ops[k]? = some o := by simpa using (hl 0 (by simp)).symm
    simp only [List.length_cons, Region.lexHead, Bool.and_eq_true] at hB
    obtain ⟨⟨hr, hf⟩, hB'⟩ := hB
    have hkn : k < n := by simp only [List.length_cons] at hk; omega
    have hr' : k ∈ Region.ready md ops listed := by simpa using hr
    obtain ⟨v, hy, hK⟩ := h
    refine anyY_first h0 (Region.noSelect_spec hsel) (HeadInv md ops n) (fun listed j inv hj hjn => inv.set hj hjn)
      (fun listed inv hun j hj => by
        rcases Nat.lt_or_ge j n with h | h
        · exact h
        · exact absurd hj (tail_waits hs hc hn inv _ k rfl hkn hun j h))
      (fun listed' a' inv' hr'' hL j hj => by
        by_cases hji : j = k
        · exact hji
        · have h1 := seqB_ready hL.1 j (ready_mono hj hji)
          exact absurd hj (tail_waits hs hc hn inv' _ k rfl hkn (mem_ready.1 hr'').1 j h1))
      l.length listed a inv (Region.free_spec h0 hf) hr' hy ?_
    exact anyY_head hsel hs hc hn l (k + 1) _ _ (fun j hj => by have := hl (j + 1) (by simp; omega); simpa [Nat.add_assoc, Nat.add_comm 1 j] using this) (by simp only [List.length_cons] at hk; omega) (inv.set hr' hkn) hB' hK

/-- The first n operations are of the kind; the others follow in a forced order. -/
theorem wp_region_pure_tail {id : Nat} {Q : Exit → Act → World → Prop} {a : Act} {w : World} {ops : Array Oper} (n : Nat) (hm : P.follows .mixedOrders = true) (hB : Region.lexTailB .any ops n = true)
    (hI : I { w with drawn := w.drawn + 1 }) (h : seqY P I ops (fun a' => ∀ w', I w' → wpList P ops Q (ops.toList.drop n) a' w') (ops.toList.take n) a) : (Code.region id ops true).wp P Q a w := by
  simp only [Region.lexTailB, Bool.and_eq_true, decide_eq_true_eq] at hB
  obtain ⟨⟨⟨⟨hsel, hn⟩, hs⟩, hc⟩, hlex⟩ := hB
  have hn' : n < ops.toList.length := by simpa using hn
  have htl : (ops.toList.take n).length = n := by simp; omega
  have hdl : (ops.toList.drop n).length = ops.size - n := by simp
  have inv0 : HeadInv .any ops n (Array.replicate ops.size false) :=
    ⟨by simp, fun j oj _ hl => (by rw [getD_replicate_false] at hl; cases hl), fun t _ ht => getD_in (by simpa using ht) (getD_replicate_false _ _)⟩
  have H := anyY_head (P := P) (I := I) (md := .any) (g := ops.size - n) hsel hs hc hn (ops.toList.take n) 0 _ a (fun j hj => by
    have hj' : j < n := by rw [htl] at hj; exact hj
    simp [hj']) (by simpa using htl) inv0 (by rw [htl]; exact hlex) h
  refine wp_region_any hm ?_
  have := wpAny_of_anyY (md := .any) (Q := Q) (g := ops.size - n) (fun listed a' hL w' hw' => by
    have := wpAny_of_seq (md := .any) (Q' := Q) (ops.toList.drop n) n listed a' w' (fun j => by simp [List.getElem?_drop]) (by rw [hdl]; exact hL.1) (hL.2 w' hw')
    rwa [hdl] at this) _ _ _ H _ hI
  rw [htl, show n + (ops.size - n) = ops.size by omega] at this
  exact this

end
end Go.Ax
