/- The abstract executor: slices, choices, builtins, composite values; all operations that leave memory alone. -/
import Derived.Test.YtljchidgchjoeaaAx5
import Derived.Laws.Small
import Derived.Laws.CopyRow
namespace Go.Ax
open Go Go.RowKit

section
variable {P : Program} {w : World} {env : Nat → Nat} {m : Nat}

def OptR (env : Nat → Nat) (m : Nat) : Option AV → Option Value → Prop
  | none, none => True
  | some x, some v => x.R env m v
  | _, _ => False

theorem optInt_R {d n : Nat} {x : Option AV} {v : Option Value} (h : optInt d x = some n) (hx : OptR env m x v) : (v = none ∧ n = d) ∨ ∃ k i, v = some (.int k i) ∧ 0 ≤ i ∧ i.toNat = n := by
  cases x with
  | none =>
    cases v with
    | none => simp [optInt] at h; exact .inl ⟨rfl, h.symm⟩
    | some v => exact hx.elim
  | some x =>
    cases v with
    | none => exact hx.elim
    | some v =>
      simp only [optInt] at h
      split at h
      · rename_i k i hi
        obtain ⟨rfl, _⟩ := int_val (.inl hi) hx
        split at h
        · rename_i hb
          cases h
          exact .inr ⟨k, i, rfl, of_decide_eq_true hb, rfl⟩
        · cases h
      · cases h

theorem run_sliceBound {k : IntKind} {i : Int} {y : Nat} {c : BoundsCode} (h0 : 0 ≤ i) (h1 : i.toNat ≤ y) : (Instr.sliceBound (.int k i) y c).run P w = .ok i.toNat w := by
  have : i ≤ (y : Int) := by omega
  simp [Instr.sliceBound, asIntOf, h0, this]

theorem boundsA_run {isSlice : Bool} {len cap l h mx : Nat} {lo hi ma : Option AV} {vl vh vm : Option Value} (hb : boundsA len cap lo hi ma = some (l, h, mx))
    (h1 : OptR env m lo vl) (h2 : OptR env m hi vh) (h3 : OptR env m ma vm) :
    (Instr.sliceBounds isSlice len cap vl vh vm).run P w = .ok (l, h, mx) w ∧ l ≤ h ∧ h ≤ mx ∧ mx ≤ cap ∧ cap ≤ 9223372036854775807 := by
  unfold boundsA at hb
  split at hb
  · rename_i l' h' m' e1 e2 e3
    split at hb
    · rename_i hc
      cases hb
      simp only [Bool.and_eq_true, Bool.or_eq_true, decide_eq_true_eq] at hc
      obtain ⟨⟨⟨⟨c1, c2⟩, c3⟩, c4⟩, c5⟩ := hc
      refine ⟨?_, c1, c2, c3, c5⟩
      have o1 := optInt_R e1 h1
      have o2 := optInt_R e2 h2
      have o3 := optInt_R e3 h3
      rcases o3 with ⟨rfl, rfl⟩ | ⟨k3, i3, rfl, p3, rfl⟩ <;> rcases o2 with ⟨rfl, rfl⟩ | ⟨k2, i2, rfl, p2, rfl⟩ <;> rcases o1 with ⟨rfl, rfl⟩ | ⟨k1, i1, rfl, p1, rfl⟩
      all_goals first
        | (simp [Instr.sliceBounds, run_sliceBound (P := P) (w := w), *]; done)
        | (exfalso
           cases hi with
           | none => cases ma with
             | none => exact h3.elim
             | some _ => simp at c4
           | some _ => exact h2.elim)
    · cases hb
  · cases hb

/-- Without a third bound, whatever the capacity is. -/
theorem boundsA_run_cap {len l h mx c : Nat} {lo hi : Option AV} {vl vh : Option Value} (hb : boundsA len len lo hi none = some (l, h, mx)) (hc : len ≤ c)
    (h1 : OptR env m lo vl) (h2 : OptR env m hi vh) :
    (Instr.sliceBounds true len c vl vh none).run P w = .ok (l, h, c) w ∧ l ≤ h ∧ h ≤ len := by
  unfold boundsA at hb
  split at hb
  · rename_i l' h' m' e1 e2 e3
    split at hb
    · rename_i hc'
      cases hb
      simp only [optInt, Option.some.injEq] at e3
      subst e3
      simp only [Bool.and_eq_true, Bool.or_eq_true, decide_eq_true_eq] at hc'
      obtain ⟨⟨⟨⟨c1, c2⟩, c3⟩, c4⟩, c5⟩ := hc'
      refine ⟨?_, c1, c2⟩
      have o1 := optInt_R e1 h1
      have o2 := optInt_R e2 h2
      rcases o2 with ⟨rfl, rfl⟩ | ⟨k2, i2, rfl, p2, rfl⟩ <;> rcases o1 with ⟨rfl, rfl⟩ | ⟨k1, i1, rfl, p1, rfl⟩
      · simp [Instr.sliceBounds]
      · simp [Instr.sliceBounds, run_sliceBound (P := P) (w := w), *]
      · have : i2.toNat ≤ c := by omega
        simp [Instr.sliceBounds, run_sliceBound (P := P) (w := w), *]
      · have : i2.toNat ≤ c := by omega
        simp [Instr.sliceBounds, run_sliceBound (P := P) (w := w), *]
    · cases hb
  · cases hb

theorem bndI_R {d n : Int} {x : Option AV} {v : Option Value} (h : bndI d x = some n) (hx : OptR env m x v) : (x = none ∧ v = none ∧ n = d) ∨ (∃ y k, x = some y ∧ v = some (.int k n)) := by
  cases x with
  | none =>
    cases v with
    | none => simp [bndI] at h; exact .inl ⟨rfl, rfl, h.symm⟩
    | some v => exact hx.elim
  | some x =>
    cases v with
    | none => exact hx.elim
    | some v =>
      simp only [bndI] at h
      split at h
      · rename_i i hi; cases h; exact .inr ⟨x, _, rfl, by rw [(int_val (.inl hi) hx).1]⟩
      · rename_i i hi; cases h; exact .inr ⟨x, _, rfl, by rw [(int_val (.inr hi) hx).1]⟩
      · cases h
theorem zeroB_R {x : Option AV} {v : Option Value} (h : zeroB x = true) (hx : OptR env m x v) : ∃ k, v = some (.int k 0) := by
  cases x with
  | none => cases h
  | some x =>
    cases v with
    | none => exact hx.elim
    | some v =>
      simp only [zeroB] at h
      split at h
      · rename_i hi; exact ⟨_, by rw [(int_val (.inl hi) hx).1]⟩
      · cases h

/-- Two bounds of a slice, or fewer. -/
theorem run_bounds2 {n c : Nat} {l h : Int} {lo hi : Option AV} {vl vh : Option Value} (e1 : bndI 0 lo = some l) (e2 : bndI (n : Int) hi = some h) (h1 : OptR env m lo vl) (h2 : OptR env m hi vh) (q1 : 0 ≤ l) (q2 : l ≤ h) (q3 : h ≤ (n : Int)) (hc : n ≤ c) :
    (Instr.sliceBounds true n c vl vh none).run P w = .ok (l.toNat, h.toNat, c) w := by
  have g1 : h.toNat ≤ c := by omega
  have g2 : l.toNat ≤ h.toNat := by omega
  rcases bndI_R e2 h2 with ⟨_, rfl, rfl⟩ | ⟨_, k2, _, rfl⟩ <;> rcases bndI_R e1 h1 with ⟨_, rfl, rfl⟩ | ⟨_, k1, _, rfl⟩
  · simp [Instr.sliceBounds]
  · simp [Instr.sliceBounds, run_sliceBound (P := P) (w := w) q1 (show l.toNat ≤ n by omega)]
  · simp [Instr.sliceBounds, run_sliceBound (P := P) (w := w) (show 0 ≤ h by omega) g1]
  · simp [Instr.sliceBounds, run_sliceBound (P := P) (w := w) (show 0 ≤ h by omega) g1, run_sliceBound (P := P) (w := w) q1 g2]
theorem run_bounds3 {n c : Nat} {l h x : Int} {lo hi mx : Option AV} {vl vh vm : Option Value} {y : AV} (hmx : mx = some y) (e1 : bndI 0 lo = some l) (e2 : bndI (n : Int) hi = some h) (e3 : bndI 0 mx = some x) (h1 : OptR env m lo vl) (h2 : OptR env m hi vh) (h3 : OptR env m mx vm)
    (hhi : hi ≠ none) (q1 : 0 ≤ l) (q2 : l ≤ h) (q3 : h ≤ x) (q4 : x ≤ (n : Int)) (hc : n ≤ c) :
    (Instr.sliceBounds true n c vl vh vm).run P w = .ok (l.toNat, h.toNat, x.toNat) w := by
  have g0 : x.toNat ≤ c := by omega
  have g1 : h.toNat ≤ x.toNat := by omega
  have g2 : l.toNat ≤ h.toNat := by omega
  rcases bndI_R e3 h3 with ⟨q, _, _⟩ | ⟨_, k3, _, rfl⟩
  · rw [hmx] at q; cases q
  rcases bndI_R e2 h2 with ⟨q, _, _⟩ | ⟨_, k2, _, rfl⟩
  · exact absurd q hhi
  rcases bndI_R e1 h1 with ⟨_, rfl, rfl⟩ | ⟨_, k1, _, rfl⟩
  · simp [Instr.sliceBounds, run_sliceBound (P := P) (w := w) (show 0 ≤ x by omega) g0, run_sliceBound (P := P) (w := w) (show 0 ≤ h by omega) g1]
  · simp [Instr.sliceBounds, run_sliceBound (P := P) (w := w) (show 0 ≤ x by omega) g0, run_sliceBound (P := P) (w := w) (show 0 ≤ h by omega) g1, run_sliceBound (P := P) (w := w) q1 g2]

theorem offQ_eq {o : Nat} {lo : Option AV} {l : Int} (h : bndI 0 lo = some l) : offQ o lo l = o + l.toNat := by
  cases lo with
  | none => simp [bndI] at h; subst h; rfl
  | some x => rfl
theorem lenQ_eq {lo : Option AV} {l h : Int} (e : bndI 0 lo = some l) : lenQ lo l h = h.toNat - l.toNat := by
  cases lo with
  | none => simp [bndI] at e; subst e; rfl
  | some x => rfl

theorem sliceQ_sound {t e : TypeId} {b o n : Nat} {g : Option Nat} {v : AV} {lo hi ma : Option AV} {ps : List Prop} {vx : Value} {vl vh vm : Option Value} (hu : P.underlying t = some (.slice e)) (h : sliceQ P e b g o n lo hi ma = some (ps, v)) (hp : allP ps)
    (hx : (match g with | some g => SV.sq b g o n | none => SV.slq b o n).R env m vx) (h1 : OptR env m lo vl) (h2 : OptR env m hi vh) (h3 : OptR env m ma vm) : RunV P w env m (Instr.sliceAt t vx vl vh vm) v := by
  obtain ⟨p, c, hb, rfl, hnc, hc, hpo⟩ : ∃ p c, b < m ∧ vx = .slice p n c ∧ n ≤ c ∧ c ≤ 9223372036854775807 ∧ (n = 0 ∨ p = some ⟨env b, o, none⟩) := by
    cases g with
    | some g =>
      obtain ⟨hb, o', ho, hg1, hg2, rfl⟩ := hx
      refine ⟨_, _, hb.1, rfl, by omega, by omega, ?_⟩
      by_cases h0 : n = 0
      · exact .inl h0
      · right
        rcases ho with rfl | ho
        · rfl
        · omega
    | none =>
      obtain ⟨hb, p, c, hc, hc2, rfl, hn⟩ := hx
      exact ⟨p, c, hb, rfl, hc, hc2, hn⟩
  unfold sliceQ at h
  split at h
  · rename_i sz hs
    split at h
    · rename_i hz hlo hzz
      cases h
      simp only [Bool.and_eq_true] at hzz
      obtain ⟨k2, rfl⟩ := zeroB_R hzz.1 h2
      obtain ⟨k3, rfl⟩ := zeroB_R hzz.2 h3
      have hvl : vl = none := by cases vl with | none => rfl | some _ => exact h1.elim
      subst hvl
      have hr : (Instr.sliceBounds true n c none (some (.int k2 0)) (some (.int k3 0))).run P w = .ok (0, 0, 0) w := by
        simp [Instr.sliceBounds, run_sliceBound (P := P) (w := w) (Int.le_refl 0) (Nat.zero_le _)]
      refine ⟨.slice p 0 0, ?_, trivial, p, rfl⟩
      simp only [Instr.sliceAt, Instr.slice, Sem.run_bind, run_underlying hu, Result.andThen_ok, Sem.run_pure, hr, sizeA_run hs, if_true, Nat.sub_zero]
    · rename_i hz _
      have hz := Nat.eq_of_beq_eq_true hz
      subst hz
      split at h
      · rename_i l h' e1 e2 _
        have hvm : vm = none := by cases vm with | none => rfl | some _ => exact h3.elim
        subst hvm
        cases h
        have q1 : 0 ≤ l := hp.1
        have q2 : l ≤ h' := hp.2.1
        have q3 : h' ≤ (n : Int) := hp.2.2.1
        have hr := run_bounds2 (P := P) (w := w) e1 e2 h1 h2 q1 q2 q3 hnc
        have hrun : ∀ z, z = Value.slice (if c = l.toNat then p else p.map (·.add (l.toNat * 1))) (h'.toNat - l.toNat) (c - l.toNat) → (Instr.sliceAt t (.slice p n c) vl vh none).run P w = .ok z w := fun z hz => by
          rw [hz]
          simp only [Instr.sliceAt, Instr.slice, Sem.run_bind, run_underlying hu, Result.andThen_ok, Sem.run_pure, hr, sizeA_run hs]
        cases g with
        | some g =>
          obtain ⟨hb', o', ho, hg1, hg2, hx⟩ := hx
          simp only [Value.slice.injEq] at hx
          obtain ⟨hx1, -, hx2⟩ := hx
          refine ⟨_, hrun _ rfl, ⟨hb', if c = l.toNat then o' else o' + l.toNat, ?_, ?_, hg2, ?_⟩⟩
          · rw [offQ_eq e1]
            split
            · right; omega
            · left
              rcases ho with rfl | ho
              · rfl
              · omega
          · rw [offQ_eq e1, lenQ_eq e1]; omega
          · rw [offQ_eq e1, lenQ_eq e1, hx1]
            have e3 : c - l.toNat = env g - (o + l.toNat) := by omega
            rw [e3]
            split
            · rfl
            · simp only [Option.map_some, add_addr, Nat.mul_one]
        | none =>
          refine ⟨_, hrun _ rfl, ⟨hb, _, _, ?_, ?_, by rw [lenQ_eq e1], ?_⟩⟩
          · rw [lenQ_eq e1]; omega
          · omega
          · rw [lenQ_eq e1, offQ_eq e1]
            by_cases h0 : h'.toNat - l.toNat = 0
            · exact .inl h0
            · right
              have hne : ¬ c = l.toNat := by omega
              rw [if_neg hne]
              rcases hpo with hpo | hpo
              · omega
              · rw [hpo]; simp only [Option.map_some, add_addr, Nat.mul_one]
      · rename_i y l h' e1 e2 _
        split at h
        · rename_i x e3 hsome
          cases h
          have q1 : 0 ≤ l := hp.1
          have q2 : l ≤ h' := hp.2.1
          have q3 : h' ≤ x := hp.2.2.1
          have q4 : x ≤ (n : Int) := hp.2.2.2.1
          have hhi : hi ≠ none := fun e => by subst e; cases hsome
          · have hr := run_bounds3 (P := P) (w := w) rfl e1 e2 e3 h1 h2 h3 hhi q1 q2 q3 q4 hnc
            refine ⟨.slice (if x.toNat = l.toNat then p else p.map (·.add (l.toNat * 1))) (h'.toNat - l.toNat) (x.toNat - l.toNat), ?_, hb, _, _, ?_, ?_, by rw [lenQ_eq e1], ?_⟩
            · simp only [Instr.sliceAt, Instr.slice, Sem.run_bind, run_underlying hu, Result.andThen_ok, Sem.run_pure, hr, sizeA_run hs]
            · rw [lenQ_eq e1]; omega
            · omega
            · rw [lenQ_eq e1, offQ_eq e1]
              by_cases h0 : h'.toNat - l.toNat = 0
              · exact .inl h0
              · right
                have hne : ¬ x.toNat = l.toNat := by omega
                rw [if_neg hne]
                rcases hpo with hpo | hpo
                · omega
                · rw [hpo]; simp only [Option.map_some, add_addr, Nat.mul_one]
        · cases h
      · cases h
    · cases h
  · cases h

theorem sliceR_sound {t e : TypeId} {b g o n : Nat} {v : AV} {lo hi ma : Option AV} {ps : List Prop} {vx : Value} {vl vh vm : Option Value} (hu : P.underlying t = some (.slice e)) (h : sliceR P e b g o n lo hi ma = some (ps, v)) (hp : allP ps)
    (hx : (SV.slr b g o n).R env m vx) (h1 : OptR env m lo vl) (h2 : OptR env m hi vh) (h3 : OptR env m ma vm) : RunV P w env m (Instr.sliceAt t vx vl vh vm) v := by
  obtain ⟨hb, p, c, hc, hc2, rfl, hn⟩ := hx
  have hx : (SV.slq b (env g + o) n).R env m (.slice p n c) := ⟨hb.1, p, c, hc, hc2, rfl, hn⟩
  have key : ∀ x, sliceQ P e b none o n lo hi ma = some (ps, x) → ∃ x', sliceQ P e b none (env g + o) n lo hi ma = some (ps, x') ∧ ((x = .one .e0 ∧ x' = .one .e0) ∨ ∃ o' n', x = .one (.slq b o' n') ∧ x' = .one (.slq b (env g + o') n')) := fun x hq => by
    have hoff : ∀ l : Int, offQ (env g + o) lo l = env g + offQ o lo l := fun l => by
      cases lo with
      | none => rfl
      | some _ => simp only [offQ]; omega
    unfold sliceQ at hq ⊢
    split at hq
    · split at hq
      · cases hq; exact ⟨_, rfl, .inl ⟨rfl, rfl⟩⟩
      · split at hq
        · rename_i e1 e2 _
          cases hq
          refine ⟨_, rfl, .inr ⟨_, _, rfl, ?_⟩⟩
          rw [hoff]
        · split at hq
          · cases hq
            refine ⟨_, rfl, .inr ⟨_, _, rfl, ?_⟩⟩
            rw [hoff]
          · cases hq
        · cases hq
      · cases hq
    · cases hq
  unfold sliceR at h
  split at h
  · rename_i qs b' o' n' hq
    cases h
    obtain ⟨x', q1, ⟨q, _⟩ | ⟨o2, n2, q2, q3⟩⟩ := key _ hq
    · cases q
    · cases q2
      subst q3
      obtain ⟨z, hz, hr⟩ := sliceQ_sound (g := none) hu q1 hp hx h1 h2 h3
      obtain ⟨_, p', c', r1, r2, rfl, r3⟩ := hr
      exact ⟨_, hz, hb, p', c', r1, r2, rfl, r3⟩
  · rename_i qs hq
    cases h
    obtain ⟨x', q1, ⟨_, q2⟩ | ⟨o2, n2, q2, _⟩⟩ := key _ hq
    · subst q2
      exact sliceQ_sound (g := none) hu q1 hp hx h1 h2 h3
    · cases q2
  · cases h

theorem sliceA_sound {t : TypeId} {x v : AV} {lo hi ma : Option AV} {ps : List Prop} {vx : Value} {vl vh vm : Option Value} (h : sliceA P t x lo hi ma = some (ps, v)) (hp : allP ps) (hx : x.R env m vx)
    (h1 : OptR env m lo vl) (h2 : OptR env m hi vh) (h3 : OptR env m ma vm) : RunV P w env m (Instr.sliceAt t vx vl vh vm) v := by
  have hoff : ∀ (b o l mx sz : Nat), (if mx = l then (⟨b, o, none⟩ : Addr) else (⟨b, o, none⟩ : Addr).add (l * sz)) = ⟨b, offA mx l o sz, none⟩ := fun b o l mx sz => by
    unfold offA
    by_cases e : mx = l
    · have : Nat.beq mx l = true := by rw [e]; exact Nat.beq_refl l
      rw [if_pos e, this]
    · have : Nat.beq mx l = false := by
        cases hq : Nat.beq mx l with
        | true => exact absurd (Nat.eq_of_beq_eq_true hq) e
        | false => rfl
      rw [if_neg e, this, add_addr]
  unfold sliceA at h
  split at h
  · rename_i n e b o hu
    obtain ⟨hb, rfl⟩ := hx
    split at h
    · rename_i l h' mx sz hbd hs
      cases h
      obtain ⟨hr, q1, q2, q3, q4⟩ := boundsA_run (P := P) (w := w) (isSlice := false) hbd h1 h2 h3
      refine ⟨_, ?_, ⟨⟨hb, by omega, by omega⟩, rfl⟩⟩
      simp only [SV.conc, Instr.sliceAt, Sem.run_bind, run_underlying hu, Result.andThen_ok, Instr.sureAddr, Sem.run_pure, hr, sizeA_run hs, hoff]
    · cases h
  · rename_i e b o len cap hu
    obtain ⟨hb, rfl⟩ := hx
    split at h
    · rename_i l h' mx sz hbd hs
      cases h
      obtain ⟨hr, q1, q2, q3, q4⟩ := boundsA_run (P := P) (w := w) (isSlice := true) hbd h1 h2 h3
      refine ⟨_, ?_, ⟨⟨hb.1, by omega, by omega⟩, rfl⟩⟩
      have ho := hoff (env b) o l mx sz
      simp only [SV.conc, Instr.sliceAt, Instr.slice, Sem.run_bind, run_underlying hu, Result.andThen_ok, Sem.run_pure, hr, sizeA_run hs, Option.map_some]
      rw [← ho]
      by_cases e : mx = l
      · rw [if_pos e, if_pos e]
      · rw [if_neg e, if_neg e]
    · cases h
  · rename_i e b o len hu
    obtain ⟨hb, c, hc, hc2, rfl⟩ := hx
    cases ma with
    | some _ => cases h
    | none =>
      have hvm : vm = none := by cases vm with | none => rfl | some _ => exact h3.elim
      subst hvm
      dsimp only at h
      split at h
      · cases h
      · rename_i l h' mx hbd
        split at h
        · rename_i sz hs hlt
          cases h
          have hlt := of_decide_eq_true hlt
          obtain ⟨hr, hr1, hr2⟩ := boundsA_run_cap (P := P) (w := w) hbd hc h1 h2
          refine ⟨.slice (some ⟨env b, o + l * sz, none⟩) (h' - l) (c - l), ?_, ⟨hb, c - l, by omega, by omega, rfl⟩⟩
          have hne : ¬ c = l := by omega
          simp only [Instr.sliceAt, Instr.slice, Sem.run_bind, run_underlying hu, Result.andThen_ok, Sem.run_pure, hr, sizeA_run hs, Option.map_some, if_neg hne, add_addr]
        · cases h
  · rename_i e b g o n hu; exact sliceQ_sound (g := some g) hu h hp hx h1 h2 h3
  · rename_i e b o n hu; exact sliceQ_sound (g := none) hu h hp hx h1 h2 h3
  · rename_i e b g o n hu; exact sliceR_sound hu h hp hx h1 h2 h3
  · cases h

theorem toArrPtrA_sound {t : TypeId} {x v : AV} {ps : List Prop} {vx : Value} (h : toArrPtrA P t x = some (ps, v)) (hx : x.R env m vx) : RunV P w env m (Instr.arrayAt t vx) v := by
  unfold toArrPtrA at h
  split at h
  · rename_i n e b o len c hu
    obtain ⟨hb, rfl⟩ := hx
    split at h
    · rename_i hn
      have hn : ¬ len < n := by have := of_decide_eq_true hn; omega
      cases h
      exact ⟨.pointer (some ⟨env b, o, none⟩), by simp [SV.conc, Instr.arrayAt, run_underlying hu, hn], ⟨hb.1, rfl⟩⟩
    · cases h
  · rename_i n e b o len hu
    obtain ⟨hb, c, hc, _, rfl⟩ := hx
    split at h
    · rename_i hn
      have hn : ¬ len < n := by have := of_decide_eq_true hn; omega
      cases h
      exact ⟨.pointer (some ⟨env b, o, none⟩), by simp [Instr.arrayAt, run_underlying hu, hn], ⟨hb, rfl⟩⟩
    · cases h
  · cases h

theorem pickA_sound {c a b v : AV} {ps : List Prop} {vc va vb : Value} (h : pickA c a b = some (ps, v)) (hc : c.R env m vc) (ha : a.R env m va) (hb : b.R env m vb) :
    RunV P w env m (do pure (if ← asBool vc then va else vb)) v := by
  unfold pickA at h
  split at h
  · rename_i hc'
    obtain rfl := bool_val (.inl hc') hc
    cases h
    exact ⟨va, by simp [asBool], ha⟩
  · rename_i hc'
    obtain rfl := bool_val (.inl hc') hc
    cases h
    exact ⟨vb, by simp [asBool], hb⟩
  · rename_i t hc'
    obtain rfl := bool_val (.inr hc') hc
    have key : ∀ k x k' y, (a.int = .l k x ∨ a.int = .s k x) → (b.int = .l k' y ∨ b.int = .s k' y) → kEq k k' = true → RunV P w env m (do pure (if ← asBool (.bool t) then va else vb)) (.one (.si k (iteI t x y))) := fun k x k' y h1 h2 hk => by
      have := kEq_of hk
      subst this
      obtain ⟨rfl, o1⟩ := int_val h1 ha
      obtain ⟨rfl, o2⟩ := int_val h2 hb
      exact ⟨_, by cases t <;> simp [asBool] <;> rfl, si_R (ok_iteI o1 o2)⟩
    have keyb : ∀ x y, (a.bool = .l x ∨ a.bool = .s x) → (b.bool = .l y ∨ b.bool = .s y) → RunV P w env m (do pure (if ← asBool (.bool t) then va else vb)) (.one (.sb (iteB t x y))) := fun x y h1 h2 => by
      obtain rfl := bool_val h1 ha
      obtain rfl := bool_val h2 hb
      exact ⟨_, by cases t <;> simp [asBool] <;> rfl, sb_R⟩
    split at h
    · rename_i e1 e2
      split at h
      · rename_i hk; cases h; exact key _ _ _ _ (.inl e1) (.inl e2) hk
      · cases h
    · rename_i e1 e2
      split at h
      · rename_i hk; cases h; exact key _ _ _ _ (.inl e1) (.inr e2) hk
      · cases h
    · rename_i e1 e2
      split at h
      · rename_i hk; cases h; exact key _ _ _ _ (.inr e1) (.inl e2) hk
      · cases h
    · rename_i e1 e2
      split at h
      · rename_i hk; cases h; exact key _ _ _ _ (.inr e1) (.inr e2) hk
      · cases h
    · split at h
      · rename_i e1 e2; cases h; exact keyb _ _ (.inl e1) (.inl e2)
      · rename_i e1 e2; cases h; exact keyb _ _ (.inl e1) (.inr e2)
      · rename_i e1 e2; cases h; exact keyb _ _ (.inr e1) (.inl e2)
      · rename_i e1 e2; cases h; exact keyb _ _ (.inr e1) (.inr e2)
      · cases h
  · cases h

/-- A length: a slice that is there has at most so many cells. -/
theorem len_ok {n : Nat} (h : n ≤ 9223372036854775807) : okI .i64 (n : Int) := by
  unfold okI
  simp [IntKind.min, IntKind.max, IntKind.bits, IntKind.signed]
  omega

theorem lenA_sound {t : TypeId} {x v : AV} {ts : Array TypeId} {rt : TypeId} {args : Array Value} {ps : List Prop} {vx : Value} (h : lenA P t x = some (ps, v)) (hx : x.R env m vx) (ht : ts[0]? = some t) (ha : args[0]? = some vx) :
    RunV P w env m (Builtin.len_ ts rt args) v := by
  unfold lenA at h
  split at h
  · rename_i e b o n c hu
    obtain ⟨hb, rfl⟩ := hx
    cases h
    exact ⟨_, by simp [Builtin.len_, ht, ha, SV.conc, run_underlying hu, goInt], li_R (len_ok (by have := hb.2; omega))⟩
  · rename_i e b o n hu
    obtain ⟨hb, c, hc, hc2, rfl⟩ := hx
    cases h
    exact ⟨_, by simp [Builtin.len_, ht, ha, run_underlying hu, goInt], li_R (len_ok (by omega))⟩
  · rename_i e c hu
    obtain ⟨hb, rfl⟩ := hx
    cases h
    exact ⟨_, by simp [Builtin.len_, ht, ha, SV.conc, run_underlying hu, goInt], li_R (by decide)⟩
  · rename_i e b g o n hu
    obtain ⟨hb, o', ho, hg1, hg2, rfl⟩ := hx
    cases h
    exact ⟨_, by simp [Builtin.len_, ht, ha, run_underlying hu, goInt], si_R (len_ok (by omega))⟩
  · rename_i e b o n hu
    obtain ⟨hb, p, c, hc, hc2, rfl, hn⟩ := hx
    cases h
    exact ⟨_, by simp [Builtin.len_, ht, ha, run_underlying hu, goInt], si_R (len_ok (by omega))⟩
  · rename_i e b g o n hu
    obtain ⟨hb, p, c, hc, hc2, rfl, hn⟩ := hx
    cases h
    exact ⟨_, by simp [Builtin.len_, ht, ha, run_underlying hu, goInt], si_R (len_ok (by omega))⟩
  · rename_i e hu
    obtain ⟨_, p, rfl⟩ := hx
    cases h
    exact ⟨_, by simp [Builtin.len_, ht, ha, run_underlying hu, goInt], li_R (by decide)⟩
  · rename_i n e hu
    split at h
    · rename_i hn
      cases h
      exact ⟨_, by simp [Builtin.len_, ht, ha, run_underlying hu, goInt], li_R (len_ok (of_decide_eq_true hn))⟩
    · cases h
  · cases h

theorem capA_sound {t : TypeId} {x v : AV} {ts : Array TypeId} {rt : TypeId} {args : Array Value} {ps : List Prop} {vx : Value} (h : capA P t x = some (ps, v)) (hx : x.R env m vx) (ht : ts[0]? = some t) (ha : args[0]? = some vx) :
    RunV P w env m (Builtin.cap_ ts rt args) v := by
  unfold capA at h
  split at h
  · rename_i e b o n c hu
    obtain ⟨hb, rfl⟩ := hx
    cases h
    exact ⟨_, by simp [Builtin.cap_, ht, ha, SV.conc, run_underlying hu, goInt], li_R (len_ok hb.2.2)⟩
  · rename_i n e hu
    split at h
    · rename_i hn
      cases h
      exact ⟨_, by simp [Builtin.cap_, ht, ha, run_underlying hu, goInt], li_R (len_ok (of_decide_eq_true hn))⟩
    · cases h
  · cases h

theorem minmax_val {mn : Bool} {x y v : AV} {ps : List Prop} {vx vy : Value} (h : minmax mn x.int y.int = some (ps, v)) (hx : x.R env m vx) (hy : y.R env m vy) :
    ∃ k a b, vx = .int k a ∧ vy = .int k b ∧ v.R env m (.int k (if mn then (if b < a then b else a) else (if b > a then b else a))) := by
  have key : ∀ k a k' b, (x.int = .l k a ∨ x.int = .s k a) → (y.int = .l k' b ∨ y.int = .s k' b) → kEq k k' = true → vx = .int k a ∧ vy = .int k b ∧ okI k a ∧ okI k b := fun k a k' b h1 h2 hk => by
    have := kEq_of hk
    subst this
    obtain ⟨rfl, o1⟩ := int_val h1 hx
    obtain ⟨rfl, o2⟩ := int_val h2 hy
    exact ⟨rfl, rfl, o1, o2⟩
  have okif : ∀ k (a b : Int), okI k a → okI k b → okI k (if mn then (if b < a then b else a) else (if b > a then b else a)) := fun k a b h1 h2 => by
    cases mn <;> simp <;> split <;> assumption
  have eqif : ∀ (a b : Int), mmI mn a b = (if mn then (if b < a then b else a) else (if b > a then b else a)) := fun a b => by
    cases mn <;> simp only [Bool.false_eq_true, if_false, if_true, mmI]
    · by_cases e : b > a
      · rw [if_pos e, decide_eq_true e]; rfl
      · rw [if_neg e, decide_eq_false e]; rfl
    · by_cases e : b < a
      · rw [if_pos e, decide_eq_true e]; rfl
      · rw [if_neg e, decide_eq_false e]; rfl
  unfold minmax at h
  split at h
  · rename_i k a k' b e1 e2
    split at h
    · rename_i hk
      cases h
      obtain ⟨h1, h2, h3, h4⟩ := key k a k' b (.inl e1) (.inl e2) hk
      refine ⟨k, a, b, h1, h2, ?_⟩
      exact ⟨by simp only [SV.ok]; rw [eqif]; exact okif k a b h3 h4, by simp only [SV.conc]; rw [eqif]⟩
    · cases h
  · rename_i k a k' b e1 e2
    split at h
    · rename_i hk
      cases h
      obtain ⟨h1, h2, h3, h4⟩ := key k a k' b (.inl e1) (.inr e2) hk
      refine ⟨k, a, b, h1, h2, ?_⟩
      exact ⟨by simp only [SV.ok]; rw [eqif]; exact okif k a b h3 h4, by simp only [SV.conc]; rw [eqif]⟩
    · cases h
  · rename_i k a k' b e1 e2
    split at h
    · rename_i hk
      cases h
      obtain ⟨h1, h2, h3, h4⟩ := key k a k' b (.inr e1) (.inl e2) hk
      refine ⟨k, a, b, h1, h2, ?_⟩
      exact ⟨by simp only [SV.ok]; rw [eqif]; exact okif k a b h3 h4, by simp only [SV.conc]; rw [eqif]⟩
    · cases h
  · rename_i k a k' b e1 e2
    split at h
    · rename_i hk
      cases h
      obtain ⟨h1, h2, h3, h4⟩ := key k a k' b (.inr e1) (.inr e2) hk
      refine ⟨k, a, b, h1, h2, ?_⟩
      exact ⟨by simp only [SV.ok]; rw [eqif]; exact okif k a b h3 h4, by simp only [SV.conc]; rw [eqif]⟩
    · cases h
  · cases h

theorem builtinA_sound {b : Builtin} {ts : Array TypeId} {rt : TypeId} {cs : Array Bool} {xs : List AV} {vs : List Value} {v : AV} {ps : List Prop} (h : builtinA P b ts.toList xs = some (ps, v)) (hx : All2 (AV.R env m) xs vs) :
    ∃ val, (builtin b ts rt cs vs.toArray).run P w = .ok (.value val) w ∧ v.R env m val := by
  unfold builtinA at h
  split at h
  · rename_i t trest x xrest ht
    cases vs with
    | nil => exact hx.elim
    | cons vx vrest =>
      obtain ⟨z, hz, hr⟩ := lenA_sound (w := w) (rt := rt) (ts := ts) (args := (vx :: vrest).toArray) h hx.1 (by rw [← Array.getElem?_toList, ht]; rfl) rfl
      exact ⟨z, by simp only [builtin, Sem.run_bind, hz, Result.andThen_ok, Sem.run_pure], hr⟩
  · rename_i t trest x xrest ht
    cases vs with
    | nil => exact hx.elim
    | cons vx vrest =>
      obtain ⟨z, hz, hr⟩ := capA_sound (w := w) (rt := rt) (ts := ts) (args := (vx :: vrest).toArray) h hx.1 (by rw [← Array.getElem?_toList, ht]; rfl) rfl
      exact ⟨z, by simp only [builtin, Sem.run_bind, hz, Result.andThen_ok, Sem.run_pure], hr⟩
  · rename_i x y
    match vs, hx with
    | [vx, vy], hx =>
      obtain ⟨k, a, b, rfl, rfl, hr⟩ := minmax_val h hx.1 hx.2.1
      exact ⟨_, by simp only [builtin, Sem.run_bind, run_min_int2, Result.andThen_ok, Sem.run_pure]; rfl, by simpa using hr⟩
    | [], hx => exact hx.elim
    | [_], hx => exact hx.2.elim
    | _ :: _ :: _ :: _, hx => exact hx.2.2.elim
  · rename_i x y
    match vs, hx with
    | [vx, vy], hx =>
      obtain ⟨k, a, b, rfl, rfl, hr⟩ := minmax_val h hx.1 hx.2.1
      exact ⟨_, by simp only [builtin, Sem.run_bind, run_max_int2, Result.andThen_ok, Sem.run_pure]; rfl, by simpa using hr⟩
    | [], hx => exact hx.elim
    | [_], hx => exact hx.2.elim
    | _ :: _ :: _ :: _, hx => exact hx.2.2.elim
  · cases h

/-! ### Composite values -/

theorem cellsA_R {x : AV} {cs : List SV} {v : Value} (h : x.cellsA = some cs) (hx : x.R env m v) : All2 (SV.R env m) cs v.cells.toList := by
  cases x with
  | one s =>
    have hs : s ≠ .any := fun e => by subst e; cases h
    have hc : cs = [s] := by cases s <;> first | (cases h; done) | (cases h; rfl)
    subst hc
    have h1 := SV.oneCell_of_R hx hs
    have : v.cells = #[v] := by cases v <;> first | (cases h1; done) | rfl
    rw [this]
    exact ⟨hx, trivial⟩
  | agg l =>
    cases h
    obtain ⟨vs, rfl, hl⟩ := hx
    simpa [Value.cells] using hl
  | tup l => cases h

theorem zeroA_R {t : TypeId} {z : List SV} (h : zeroA P t = some z) : ∃ zv : Value, (zeroValue t).run P w = .ok zv w ∧ All2 (SV.R env m) z zv.cells.toList := by
  unfold zeroA at h
  split at h
  · rename_i i hi
    split at h
    · rename_i zv hz
      cases h
      refine ⟨zv, by simp [zeroValue, typeInfo, hi, hz], ?_⟩
      have := All2.both (R := SV.R env m) absS id zv.cells.toList (fun x _ => absS_R env m x)
      simpa using this
    · cases h
  · cases h

theorem foldl_set (o : Nat) : ∀ (vs : List Value) (k : Nat) (cells : Array Value), o + k + vs.length ≤ cells.size →
    ((vs.zipIdx k).foldl (fun (cs : Array Value) (x : Value × Nat) => cs.setIfInBounds (o + x.2) x.1) cells).toList = cells.toList.take (o + k) ++ vs ++ cells.toList.drop (o + k + vs.length)
  | [], k, cells, _ => by simp
  | v :: vs, k, cells, h => by
    simp only [List.zipIdx_cons, List.foldl_cons]
    have hlt : o + k < cells.toList.length := by simp at h ⊢; omega
    rw [foldl_set o vs (k + 1) _ (by simp at h ⊢; omega)]
    have e := list_seg_step cells.toList (o + k) v vs (by simp at h ⊢; omega)
    simpa [Array.toList_setIfInBounds, Nat.add_assoc] using e

theorem fillA_R {pl : Nat → Option (Nat × Nat)} : ∀ {parts : List (Nat × AV)} {vparts : List (Nat × Value)} {cells l : List SV} {vs : List Value}, fillA pl cells parts = some l → All2 (SV.R env m) cells vs →
    All2 (fun (p : Nat × AV) (q : Nat × Value) => p.1 = q.1 ∧ p.2.R env m q.2) parts vparts → ∃ ws : List Value, Instr.fill pl vs.toArray vparts = some ws.toArray ∧ All2 (SV.R env m) l ws
  | [], [], cells, l, vs, h, hc, _ => by cases h; exact ⟨vs, rfl, hc⟩
  | [], _ :: _, _, _, _, _, _, hp => hp.elim
  | _ :: _, [], _, _, _, _, _, hp => hp.elim
  | (i, x) :: parts, (j, v) :: vparts, cells, l, vs, h, hc, hp => by
    obtain ⟨⟨hij, hx⟩, hp⟩ := hp
    dsimp only at hij hx
    subst hij
    simp only [fillA] at h
    split at h
    · rename_i off sz cs hpl hcs
      split at h
      · rename_i hb
        simp only [Bool.and_eq_true, decide_eq_true_eq] at hb
        obtain ⟨hb1, hb2⟩ := hb
        have hb1 := Nat.eq_of_beq_eq_true hb1
        have hv := cellsA_R hcs hx
        have hlv := hv.length
        have hlc := hc.length
        simp only [Array.length_toList] at hlv
        have hlist : (v.cells.zipIdx.foldl (fun (cs : Array Value) (x : Value × Nat) => cs.setIfInBounds (off + x.2) x.1) vs.toArray) = (vs.take off ++ v.cells.toList ++ vs.drop (off + sz)).toArray := by
          apply Array.ext'
          rw [← Array.foldl_toList, Array.toList_zipIdx]
          have := foldl_set off v.cells.toList 0 vs.toArray (by simp; omega)
          simp only [Nat.add_zero] at this
          rw [this]
          simp [← hlv, hb1]
        obtain ⟨ws, hw1, hw2⟩ := fillA_R h (((hc.take off).append hv).append (hc.drop (off + sz))) hp
        refine ⟨ws, ?_, hw2⟩
        simp only [Instr.fill, hpl]
        rw [if_neg (by simp only [List.size_toArray, Bool.or_eq_true, decide_eq_true_eq, not_or]; exact ⟨by simp; omega, by simp; omega⟩)]
        rw [← hw1, ← hlist]
      · cases h
    · cases h

theorem run_mapM_some {α β : Type} (f : α → Sem β) (g : α → Option β) (hfg : ∀ x y, g x = some y → (f x).run P w = .ok y w) : ∀ (l : List α), (∀ x ∈ l, (g x).isSome = true) →
    ∃ ys : List β, (l.mapM f).run P w = .ok ys w ∧ ∀ i : Nat, ys[i]? = (l[i]?).bind g
  | [], _ => ⟨[], by simp, by simp⟩
  | x :: l, h => by
    obtain ⟨y, hy⟩ := Option.isSome_iff_exists.1 (h x (by simp))
    obtain ⟨ys, h1, h2⟩ := run_mapM_some f g hfg l (fun z hz => h z (by simp [hz]))
    refine ⟨y :: ys, by simp [List.mapM_cons, hfg x y hy, h1], fun i => ?_⟩
    cases i with
    | zero => simp [hy]
    | succ i => simpa using h2 i

theorem buildA_sound {t : TypeId} {parts : List (Nat × AV)} {vparts : List (Nat × Value)} {v : AV} {ps : List Prop} (h : buildA P t parts = some (ps, v))
    (hp : All2 (fun (p : Nat × AV) (q : Nat × Value) => p.1 = q.1 ∧ p.2.R env m q.2) parts vparts) : RunV P w env m (Instr.build t vparts.toArray) v := by
  unfold buildA at h
  split at h
  · rename_i fs z hu hz
    obtain ⟨zv, hzr, hzc⟩ := zeroA_R (w := w) (env := env) (m := m) hz
    split at h
    · rename_i l hf
      split at h
      · rename_i hall
        cases h
        have hall' : ∀ f ∈ fs.toList, (sizeA P f.type).isSome = true := by
          intro f hf
          have := Array.all_eq_true_iff_forall_mem.1 hall f (by simpa using hf)
          exact this
        obtain ⟨ys, hy1, hy2⟩ := run_mapM_some (P := P) (w := w) (fun f : Field => do pure (f.offset, ← sizeOf f.type)) (fun f : Field => (sizeA P f.type).map fun n => (f.offset, n))
          (fun x y hxy => by
            obtain ⟨n, hn, rfl⟩ := Option.map_eq_some_iff.1 hxy
            simp [sizeA_run hn]) fs.toList (fun x hx => by simpa using hall' x hx)
        have hpl : fieldPlaceA P fs = (ys.toArray[·]?) := by
          funext i
          have := hy2 i
          simp only [List.getElem?_toArray]
          rw [this]
          simp only [Array.getElem?_toList]
          rfl
        rw [hpl] at hf
        obtain ⟨ws, hw1, hw2⟩ := fillA_R hf hzc hp
        refine ⟨_, ?_, ws, rfl, hw2⟩
        have hm : (fs.mapM fun f : Field => do pure (f.offset, ← sizeOf f.type)).run P w = .ok ys.toArray w := by
          rw [← Array.toArray_toList (xs := fs), List.mapM_toArray, Sem.run_map, hy1]
          rfl
        simp only [Instr.build, Sem.run_bind, hzr, Result.andThen_ok, run_underlying hu]
        simp only [hm, Result.andThen_ok]
        have : zv.cells = zv.cells.toList.toArray := by simp
        rw [this, hw1]
        rfl
      · cases h
    · cases h
  · rename_i n e z hu hz
    obtain ⟨zv, hzr, hzc⟩ := zeroA_R (w := w) (env := env) (m := m) hz
    split at h
    · rename_i sz hs
      split at h
      · rename_i l hf
        cases h
        obtain ⟨ws, hw1, hw2⟩ := fillA_R hf hzc hp
        refine ⟨_, ?_, ws, rfl, hw2⟩
        simp only [Instr.build, Sem.run_bind, hzr, Result.andThen_ok, run_underlying hu, sizeA_run hs]
        have : zv.cells = zv.cells.toList.toArray := by simp
        rw [this, hw1]
        rfl
      · cases h
    · cases h
  · cases h

end

/-! ## All of them -/

theorem optR_map {C : Cfg} {B : Nat → Prop} {w0 w : World} {env : Nat → Nat} {tm : TM} {mem : Mem} {a : Act} (h : Rel C B w0 env tm mem a w) (x : Option Operand) : OptR env mem.n (x.map (ev C tm)) (x.map a.eval) := by
  cases x with
  | none => trivial
  | some x => exact ev_R h x

theorem evL_R {C : Cfg} {B : Nat → Prop} {w0 w : World} {env : Nat → Nat} {tm : TM} {mem : Mem} {a : Act} (h : Rel C B w0 env tm mem a w) (l : List Operand) : All2 (AV.R env mem.n) (l.map (ev C tm)) (l.map a.eval) :=
  All2.both _ _ l fun x _ => ev_R h x

/-- What a function that the model stands in for answers. -/
def ExOk (P : Program) (g : Nat) (F : List AV → Option (List Prop × AV)) : Prop :=
  ∀ args ps r, F args = some (ps, r) → allP ps → ∀ (w : World) (env : Nat → Nat) (m : Nat) (vals : List Value), All2 (AV.R env m) args vals → ∃ v, (callFunc g vals.toArray).run P w = .ok (.value v) w ∧ r.R env m v

theorem assoc_mem {α : Type} {l : List (Nat × α)} {n : Nat} {a : α} (h : assoc l n = some a) : (n, a) ∈ l := by
  induction l with
  | nil => cases h
  | cons p l ih =>
    obtain ⟨k, b⟩ := p
    simp only [assoc] at h
    split at h
    · rename_i hb; cases h; rw [Nat.eq_of_beq_eq_true hb]; exact List.mem_cons_self ..
    · exact List.mem_cons_of_mem _ (ih h)

theorem pureOp0_sound {C : Cfg} (hE : ∀ p ∈ C.ex, ExOk C.P p.1 p.2) {B : Nat → Prop} {w0 w : World} {env : Nat → Nat} {tm : TM} {mem : Mem} {a : Act} {o : Oper} {ps : List Prop} {v : AV} (hr : Rel C B w0 env tm mem a w)
    (h : pureOp0 C o tm mem = some (ps, v)) (hp : allP ps) : ∃ val, (execOp a.eval o).run C.P w = .ok (.value val) w ∧ v.R env mem.n val := by
  have lift : ∀ {s : Sem Value}, RunV C.P w env mem.n s v → ∃ val, (do pure (Next.value (← s)) : Sem Next).run C.P w = .ok (.value val) w ∧ v.R env mem.n val := fun ⟨z, hz, hR⟩ => ⟨z, by simp [hz], hR⟩
  have hev := fun x => ev_R hr x
  unfold pureOp0 at h
  unfold execOp
  split at h
  · rename_i x ho; cases h; simp only [ho]; exact ⟨_, rfl, hev x⟩
  · rename_i x ho; cases h; simp only [ho]; exact ⟨_, rfl, hev x⟩
  · rename_i c x y ho
    simp only [ho]
    obtain ⟨z, hz, hR⟩ := pickA_sound (P := C.P) (w := w) h (hev c) (hev x) (hev y)
    refine ⟨z, ?_, hR⟩
    have hz' : (asBool (a.eval c)).run C.P w = .ok (match a.eval c with | .bool b => b | _ => false) w ∧ z = (if (match a.eval c with | .bool b => b | _ => false) then a.eval x else a.eval y) := by
      cases hc : a.eval c <;> rw [hc] at hz <;> simp [asBool] at hz ⊢ <;> exact hz.symm
    simp [hz'.1, hz'.2]
  · rename_i t x ho; simp only [ho]; exact lift (loadA_sound hr.mem h hp (hev x))
  · rename_i x ho
    simp only [ho]
    have hx := hev x
    unfold nilCheckA at h
    split at h
    · rename_i e; cases h; rw [e] at hx; have := hx.2; simp only [SV.conc] at this; rw [this]; exact ⟨_, rfl, hx.1, rfl⟩
    · rename_i e; cases h; rw [e] at hx; have := hx.2; simp only [SV.conc] at this; rw [this]; exact ⟨_, rfl, hx.1, rfl⟩
    · rename_i e; cases h; rw [e] at hx; have := hx.2; simp only [SV.conc] at this; rw [this]; exact ⟨_, rfl, hx.1, rfl⟩
    · rename_i e; cases h; rw [e] at hx; have := hx.2; simp only [SV.conc] at this; rw [this]; exact ⟨_, rfl, hx.1, rfl⟩
    · cases h
  · rename_i op t x y _ ho; simp only [ho]; exact lift (binA_sound x y h hp (hev x) (hev y))
  · rename_i op t x ho; simp only [ho]; exact lift (unA_sound h (hev x))
  · rename_i s d x ho; simp only [ho]; exact lift (convA_sound h (hev x))
  · rename_i t x ho; simp only [ho]; exact lift (toArrPtrA_sound h (hev x))
  · rename_i t x lo hi mx ho; simp only [ho]; exact lift (sliceA_sound h hp (hev x) (optR_map hr lo) (optR_map hr hi) (optR_map hr mx))
  · rename_i t x f ho; simp only [ho]; exact lift (fieldAddrA_sound h (hev x))
  · rename_i t x f ho; simp only [ho]; exact lift (fieldA_sound h (hev x))
  · rename_i t x ix ho; simp only [ho]; exact lift (indexAddrA_sound h hp (hev x) (hev ix))
  · rename_i t x ix ho; simp only [ho]; exact lift (indexA_sound h hp (hev x) (hev ix))
  · rename_i t i ho; simp only [ho]; exact lift (extractA_sound h (hev t))
  · rename_i fn first caps ho
    simp only [ho]
    have := makeFuncA_sound (P := C.P) (w := w) h (evL_R hr first.toList) (evL_R hr caps.toList)
    have e1 : (first.toList.map a.eval).toArray = first.map a.eval := by apply Array.ext'; simp
    have e2 : (caps.toList.map a.eval).toArray = caps.map a.eval := by apply Array.ext'; simp
    rw [e1, e2] at this
    exact lift this
  · rename_i t parts ho
    simp only [ho]
    have hq : All2 (fun (p : Nat × AV) (q : Nat × Value) => p.1 = q.1 ∧ p.2.R env mem.n q.2) (parts.toList.map fun p => (p.1, ev C tm p.2)) (parts.toList.map fun p => (p.1, a.eval p.2)) :=
      All2.both _ _ _ fun p _ => ⟨rfl, hev p.2⟩
    have := buildA_sound (P := C.P) (w := w) h hq
    have e1 : (parts.toList.map fun p => (p.1, a.eval p.2)).toArray = parts.map fun (i, x) => (i, a.eval x) := by apply Array.ext'; simp
    rw [e1] at this
    exact lift this
  · rename_i b args ts ho
    simp only [ho]
    obtain ⟨z, hz, hR⟩ := builtinA_sound (P := C.P) (w := w) (rt := o.type) (cs := args.map fun | .const _ => true | _ => false) h (evL_R hr args.toList)
    refine ⟨z, ?_, hR⟩
    have e1 : (args.toList.map a.eval).toArray = args.map a.eval := by apply Array.ext'; simp
    rw [e1] at hz
    simp only [resolve, Sem.run_bind, Sem.run_pure, Result.andThen_ok, invoke]
    exact hz
  · rename_i f args ts ho
    simp only [ho]
    unfold externA at h
    split at h
    · cases h
    · rename_i ex _
      split at h
      · rename_i g hf
        split at h
        · rename_i F hF
          have hv := hev f
          rw [hf] at hv
          obtain ⟨_, hv⟩ := hv
          obtain ⟨v', h1, h2⟩ := hE _ (assoc_mem hF) _ _ _ h hp w env mem.n _ (evL_R hr args.toList)
          have e1 : (args.toList.map a.eval).toArray = args.map a.eval := by apply Array.ext'; simp
          rw [e1] at h1
          refine ⟨v', ?_, h2⟩
          simp [resolve, Deferred.ofValue, hv, SV.conc, invoke, h1]
        · cases h
      · cases h
  · cases h

end Go.Ax
