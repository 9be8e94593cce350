/- The abstract executor: operations that leave memory alone are run as it says. -/
import Derived.Test.YtljchidgchjoeaaAx2
namespace Go.Ax
open Go Go.RowKit

def allP : List Prop → Prop
  | [] => True
  | p :: ps => p ∧ allP ps

/-! ## Numbers stay in their kinds' bounds -/

theorem ok_wrap (k : IntKind) (n : Int) : okI k (k.wrap n) := by
  unfold okI
  cases k <;> simp [IntKind.wrap, IntKind.min, IntKind.max, IntKind.bits, IntKind.signed] <;> (try split) <;> omega

theorem ok_bounds {k : IntKind} {n : Int} (h : okI k n) : k.min ≤ n ∧ n ≤ k.max := h

theorem wrap_ok {k : IntKind} {n : Int} (h : okI k n) : k.wrap n = n := by
  unfold okI at h
  cases k <;> simp [IntKind.wrap, IntKind.min, IntKind.max, IntKind.bits, IntKind.signed] at h ⊢ <;> (try split) <;> omega

theorem min_le_zero (k : IntKind) : k.min ≤ 0 := by cases k <;> decide
theorem zero_le_max (k : IntKind) : 0 ≤ k.max := by cases k <;> decide

theorem ok_rem {k : IntKind} {a : Int} (b : Int) (h : okI k a) : okI k (a.tmod b) := by
  have h1 := min_le_zero k
  have h2 := zero_le_max k
  unfold okI at *
  rcases Int.le_total 0 a with ha | ha
  · have h3 := Int.tmod_nonneg b ha
    have h4 : (a.tmod b).natAbs ≤ a.natAbs := by rw [Int.natAbs_tmod]; exact Nat.mod_le _ _
    omega
  · have h3 := Int.tmod_nonneg b (show 0 ≤ -a by omega)
    rw [Int.neg_tmod] at h3
    have h4 : (a.tmod b).natAbs ≤ a.natAbs := by rw [Int.natAbs_tmod]; exact Nat.mod_le _ _
    omega

theorem ok_shr {k : IntKind} {a : Int} (n : Nat) (h : okI k a) : okI k (a.fdiv (2 ^ n)) := by
  have h1 := min_le_zero k
  have h2 := zero_le_max k
  have hp : (0 : Int) < 2 ^ n := Int.pow_pos (by decide)
  rw [Int.fdiv_eq_ediv_of_nonneg _ (by omega)]
  unfold okI at *
  rcases Int.le_total 0 a with ha | ha
  · have h3 := Int.ediv_le_self (2 ^ n) ha
    have h4 := Int.ediv_nonneg ha (show (0 : Int) ≤ 2 ^ n by omega)
    omega
  · have h3 : a ≤ a / 2 ^ n := by
      refine Int.le_ediv_of_mul_le hp ?_
      have := Int.mul_le_mul_of_nonpos_left (a := a) (b := 2 ^ n) (c := 1) ha (by omega)
      simpa using this
    have h4 : a / 2 ^ n ≤ 0 := by
      rcases Int.lt_or_eq_of_le ha with h | h
      · exact Int.le_of_lt (Int.ediv_neg_of_neg_of_pos h hp)
      · rw [h, Int.zero_ediv]; exact Int.le_refl _
    omega

theorem ok_binI {op : BinOp} {k : IntKind} {a b : Int} (h : okI k a) (hop : isArith op = true ∨ isShift op = true) : okI k (binI op k a b) := by
  cases op <;> first
    | exact ok_wrap _ _
    | exact ok_rem _ h
    | exact ok_shr _ h
    | (simp [isArith, isShift] at hop; done)

theorem ok_iteI {k : IntKind} {c : Bool} {a b : Int} (ha : okI k a) (hb : okI k b) : okI k (iteI c a b) := by cases c <;> assumption

/-! ## One operation after the other -/

/-- The computation comes to a value that is told by v, and leaves the world alone. -/
def RunV (P : Program) (w : World) (env : Nat → Nat) (m : Nat) (s : Sem Value) (v : AV) : Prop := ∃ val, s.run P w = .ok val w ∧ v.R env m val

theorem int_l {x : AV} {k : IntKind} {a : Int} (h : x.int = .l k a) : x = .one (.li k a) := by
  cases x with
  | one s => cases s <;> simp [AV.int] at h ⊢ <;> exact h
  | _ => simp [AV.int] at h
theorem int_s {x : AV} {k : IntKind} {a : Int} (h : x.int = .s k a) : x = .one (.si k a) := by
  cases x with
  | one s => cases s <;> simp [AV.int] at h ⊢ <;> exact h
  | _ => simp [AV.int] at h
theorem int_val {env : Nat → Nat} {m : Nat} {x : AV} {k : IntKind} {a : Int} {v : Value} (h : x.int = .l k a ∨ x.int = .s k a) (hr : x.R env m v) : v = .int k a ∧ okI k a := by
  rcases h with h | h
  · rw [int_l h] at hr; exact ⟨hr.2, hr.1⟩
  · rw [int_s h] at hr; exact ⟨hr.2, hr.1⟩
theorem bool_val {env : Nat → Nat} {m : Nat} {x : AV} {b : Bool} {v : Value} (h : x.bool = .l b ∨ x.bool = .s b) (hr : x.R env m v) : v = .bool b := by
  cases x with
  | one s => cases s <;> simp [AV.bool] at h <;> subst h <;> exact hr.2
  | _ => simp [AV.bool] at h

section
variable {P : Program} {w : World} {env : Nat → Nat} {m : Nat}

theorem run_eqGuard_int (op : BinOp) (t : TypeId) (x y : Operand) (k k' : IntKind) (a b : Int) : (eqGuard op t x y (.int k a) (.int k' b)).run P w = .ok () w := by
  unfold eqGuard
  cases op <;> rfl

theorem run_arith {op : BinOp} {t : TypeId} {k : IntKind} {a b : Int} (h : isArith op = true) (hd : isDiv op = true → b ≠ 0) : (binOp op t (.int k a) (.int k b)).run P w = .ok (.int k (binI op k a b)) w := by
  cases op <;> simp [isArith] at h <;> simp [binOp, Op.intArith, Op.intDiv, Op.intBits, binI, isDiv] at hd ⊢ <;> simp [hd]

theorem run_cmp {op : BinOp} {t : TypeId} {k : IntKind} {a b : Int} (h : isCmp op = true) : (binOp op t (.int k a) (.int k b)).run P w = .ok (.bool (cmpI op a b)) w := by
  cases op <;> simp [isCmp] at h <;> simp [binOp, Op.intCmp, cmpI]

theorem run_shift {op : BinOp} {t : TypeId} {k k' : IntKind} {a b : Int} (h : isShift op = true) (hb : 0 ≤ b) : (binOp op t (.int k a) (.int k' b)).run P w = .ok (.int k (binI op k a b)) w := by
  have hb' : ¬ b < 0 := by omega
  cases op <;> simp [isShift] at h <;> simp [binOp, Op.shift, binI, hb']

theorem RunV.of_int {s : Sem Value} {k : IntKind} {n : Int} {l : Bool} (h : s.run P w = .ok (.int k n) w) (hk : okI k n) : RunV P w env m s (.one (match l with | true => .li k n | false => .si k n)) := by
  cases l <;> exact ⟨_, h, hk, rfl⟩

/-! ### Two structs, or two arrays, held against each other -/

theorem eqS_R {s s' : SV} {v v' : Value} {x : Bool} (h : eqS s s' = some x) (hv : s.R env m v) (hv' : s'.R env m v') : ∃ k a b, v = .int k a ∧ v' = .int k b ∧ x = (a == b) := by
  cases s <;> cases s' <;> simp only [eqS] at h <;> first
    | (cases h; done)
    | (split at h
       · rename_i hk
         have := kEq_of hk
         subst this
         exact ⟨_, _, _, hv.2, hv'.2, (Option.some.inj h).symm⟩
       · cases h)

theorem run_part_int {e : TypeId} {k : IntKind} (hu : P.underlying e = some (.int k)) {xs : Array Value} {o : Nat} {v : Value} (hx : xs[o]? = some v) : (part e xs o).run P w = .ok v w := by
  unfold part isAgg
  simp [run_underlying hu, hx]

theorem isInt_of {t : TypeId} (h : isInt P t = true) : ∃ k, P.underlying t = some (.int k) := by
  unfold isInt at h
  split at h
  · exact ⟨_, by assumption⟩
  · cases h

theorem run_eqItems_A (d c : Nat) (e : TypeId) (hi : isInt P e = true) (l l' : List SV) (vs vs' : List Value) (h1 : All2 (SV.R env m) l vs) (h2 : All2 (SV.R env m) l' vs') :
    ∀ (is : List Nat) (x : Bool), eqAt l l' (is.map fun i => (i * c, e)) = some x → (Op.eqItems (d + 1) e c vs.toArray vs'.toArray is).run P w = .ok x w
  | [], x, h => by simp [eqAt] at h; subst h; simp [Op.eqItems]
  | i :: is, x, h => by
    simp only [List.map_cons, eqAt] at h
    obtain ⟨k, hk⟩ := isInt_of hi
    split at h
    · rename_i a b ha hb
      obtain ⟨v, hv, hr⟩ := All2.get h1 ha
      obtain ⟨v', hv', hr'⟩ := All2.get h2 hb
      split at h
      · rename_i y z hy hz
        obtain ⟨k', p, q, rfl, rfl, rfl⟩ := eqS_R hy hr hr'
        have ih := run_eqItems_A d c e hi l l' vs vs' h1 h2 is z hz
        obtain rfl := Option.some.inj h
        simp only [Op.eqItems, Sem.run_bind, run_part_int hk (by simpa using hv : vs.toArray[i * c]? = _), run_part_int hk (by simpa using hv' : vs'.toArray[i * c]? = _), Result.andThen_ok, run_equalIn_int w d e k' k p q hk]
        cases p == q
        · simp
        · simpa using ih
      · cases h
    · cases h

theorem run_eqFields_A (d : Nat) (l l' : List SV) (vs vs' : List Value) (h1 : All2 (SV.R env m) l vs) (h2 : All2 (SV.R env m) l' vs') :
    ∀ (fs : List Field) (x : Bool), (fs.all fun f => decide (f.name ≠ "_") && isInt P f.type) = true → eqAt l l' (fs.map fun f => (f.offset, f.type)) = some x → (Op.eqFields (d + 1) vs.toArray vs'.toArray fs).run P w = .ok x w
  | [], x, _, h => by simp [eqAt] at h; subst h; simp [Op.eqFields]
  | f :: fs, x, hf, h => by
    simp only [List.all_cons, Bool.and_eq_true] at hf
    obtain ⟨⟨hn, hi⟩, hf⟩ := hf
    have hn' : f.name ≠ "_" := of_decide_eq_true hn
    simp only [List.map_cons, eqAt] at h
    obtain ⟨k, hk⟩ := isInt_of hi
    split at h
    · rename_i a b ha hb
      obtain ⟨v, hv, hr⟩ := All2.get h1 ha
      obtain ⟨v', hv', hr'⟩ := All2.get h2 hb
      split at h
      · rename_i y z hy hz
        obtain ⟨k', p, q, rfl, rfl, rfl⟩ := eqS_R hy hr hr'
        have ih := run_eqFields_A d l l' vs vs' h1 h2 fs z hf hz
        obtain rfl := Option.some.inj h
        simp only [Op.eqFields, hn', ne_eq, not_false_eq_true, if_true, Sem.run_bind, run_part_int hk (by simpa using hv : vs.toArray[f.offset]? = _), run_part_int hk (by simpa using hv' : vs'.toArray[f.offset]? = _), Result.andThen_ok, run_equalIn_int w d f.type k' k p q hk]
        cases p == q
        · simp
        · simpa using ih
      · cases h
    · cases h

theorem run_equalIn_A (d : Nat) (t : TypeId) (pl : List (Nat × TypeId)) (x : Bool) (l l' : List SV) (vs vs' : List Value) (h1 : All2 (SV.R env m) l vs) (h2 : All2 (SV.R env m) l' vs') (hp : eqPlan P t = some pl)
    (hx : eqAt l l' pl = some x) : (Op.equalIn (d + 2) t (.agg vs.toArray) (.agg vs'.toArray)).run P w = .ok x w := by
  unfold eqPlan at hp
  split at hp
  · rename_i n e hu
    split at hp
    · rename_i i hi1 hi2
      obtain rfl := Option.some.inj hp
      rw [run_equalIn_array w (d + 1) _ _ hu hi1]
      exact run_eqItems_A d _ e hi2 l l' vs vs' h1 h2 _ x hx
    · cases hp
  · rename_i fs hu
    split at hp
    · rename_i hs ha
      obtain rfl := Option.some.inj hp
      have hfo : P.fieldsOf t = fs := by simp [Program.fieldsOf, hu]
      rw [run_equalIn_struct w (d + 1) t _ _ (by rw [hfo]; exact hu) hs, hfo]
      exact run_eqFields_A d l l' vs vs' h1 h2 _ x ha hx
    · cases hp
  · cases hp

end

end Go.Ax
