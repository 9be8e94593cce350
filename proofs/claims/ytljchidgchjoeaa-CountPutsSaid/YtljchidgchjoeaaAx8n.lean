/- The abstract executor: where an operation is known to be fine, it says neither 'disable' nor 'enable' (and, of the second level, asks for no shape). -/
import Derived.Test.YtljchidgchjoeaaAx8
import Derived.Test.YtljchidgchjoeaaAx7c
namespace Go.Ax
open Go Go.RowKit

section
variable {C : Cfg} {B : Nat → Prop} {w0 w : World} {env : Nat → Nat} {tm : TM} {mem : Mem} {a : Act} {l : Nat}

theorem int_isval {x : AV} {v : Value} (h : isNo x.int = false) (hx : x.R env mem.n v) : ∃ k n, v = .int k n := by
  cases x with
  | one s => cases s <;> first | (simp [AV.int, isNo] at h; done) | exact ⟨_, _, hx.2⟩
  | agg l => simp [AV.int, isNo] at h
  | tup l => simp [AV.int, isNo] at h

theorem ns_resolve {ρ : Operand → Value} {c : Call} {t : TypeId} : NS l C.P (resolve ρ c t) := by
  unfold resolve
  dsimp only
  split
  · exact ns_pure _
  · exact ns_pure _
  · unfold Deferred.ofValue
    split
    · exact ns_pure _
    · exact ns_pure _
    · exact ns_stuck _

/-- A call of a function's value aside. -/
def isCallV (o : Oper) : Bool := match o.op with
  | .call { callee := .value _, .. } => true
  | _ => false

theorem opFine_ns {o : Oper} (hr : Rel C B w0 env tm mem a w) (hf : opFine C tm o = true) (hc : isCallV o = false) (hl : 1 ≤ l) (hlC : l ≤ C.lvl) : NS l C.P (execOp a.eval o) := by
  unfold opFine at hf
  split at hf
  · omega
  rename_i lv hlv
  unfold isCallV at hc
  unfold execOp
  cases hop : o.op with
  | move x => exact ns_pure _
  | assign x => exact ns_pure _
  | pick c x y => exact NS.bind (ns_asBool _) fun _ => ns_pure _
  | alloc t => exact NS.bind (ns_alloc _ _ _) fun _ => ns_pure _
  | box t x => exact NS.bind (ns_box _ _) fun _ => ns_pure _
  | build t ps => exact NS.bind (ns_build _ _) fun _ => ns_pure _
  | buildSlice t n ps => exact NS.bind (ns_buildSlice _ _ _) fun _ => ns_pure _
  | load t x => exact NS.bind (ns_loadAt _ _) fun _ => ns_pure _
  | store t x v => exact NS.bind (ns_storeAt _ _ _) fun _ => ns_pure _
  | unOp op t x => exact NS.bind (ns_unary _ _) fun _ => ns_pure _
  | sliceToArrayPointer t x => exact NS.bind (ns_arrayAt _ _) fun _ => ns_pure _
  | makeFunc f x y => exact NS.bind (ns_makeFunc _ _ _) fun _ => ns_pure _
  | makeSlice t x y => exact NS.bind (ns_makeSlice _ _ _) fun _ => ns_pure _
  | slice t x lo hi mx => exact NS.bind (ns_sliceAt _ _ _ _ _) fun _ => ns_pure _
  | field t x f => exact NS.bind (ns_field _ _ _) fun _ => ns_pure _
  | indexAddr t x i => exact NS.bind (ns_indexAt _ _ _) fun _ => ns_pure _
  | index t x i => exact NS.bind (ns_index _ _ _) fun _ => ns_pure _
  | extract t i => exact NS.bind (ns_extract _ _) fun _ => ns_pure _
  | makeInterface t x => exact NS.bind (ns_makeInterface _ _) fun _ => ns_pure _
  | makeMap t x => exact NS.bind (ns_makeMap _ _) fun _ => ns_pure _
  | nilCheck x =>
    rw [hop] at hf
    have hx := ev_R hr x
    dsimp only at hf ⊢
    split at hf
    · rename_i b o' hq; rw [hq] at hx; rw [hx.2]; exact ns_pure _
    · rename_i b o' hq; rw [hq] at hx; rw [hx.2]; exact ns_pure _
    · rename_i b g o' hq; rw [hq] at hx; rw [hx.2]; exact ns_pure _
    · rename_i f caps hq; rw [hq] at hx; rw [hx.2]; exact ns_pure _
    · cases hf
  | binOp op t x y yt =>
    rw [hop] at hf
    have hx := ev_R hr x
    have hy := ev_R hr y
    dsimp only at hf ⊢
    refine NS.bind ?_ fun _ => ns_pure _
    split at hf
    · rename_i h1 h2
      obtain ⟨k, n, e1⟩ := int_isval h1 hx
      obtain ⟨k', n', e2⟩ := int_isval h2 hy
      rw [e1, e2]
      refine NS.bind ?_ fun _ => ns_binOpInt _ _ _ _ _ _
      unfold eqGuard
      split
      · exact ns_pure _
      · exact ns_pure _
      · exact ns_pure _
    · split at hf
      · have hl1 : l ≤ 1 := by rw [hlv] at hlC; omega
        have hop' : op = .eql ∨ op = .neq := by cases op <;> simp [isEqOp] at hf ⊢
        exact NS.bind (ns_eqGuard hl1 _ _ _ _ _ _) fun _ => ns_binOpEq hl1 hop' _ _ _
      · cases hf
  | convert s d x =>
    rw [hop] at hf
    have hx := ev_R hr x
    dsimp only at hf ⊢
    refine NS.bind ?_ fun _ => ns_pure _
    unfold convert
    split at hf
    · split at hf
      · rename_i e hs hd
        have hl1 : l ≤ 1 := by rw [hlv] at hlC; omega
        refine ns_under hs (ns_under hd ?_)
        cases a.eval x <;> first
          | exact ns_stuck _
          | exact ns_uns _
          | exact NS.bind (ns_underlying _) fun _ => (by split <;> first | exact ns_bytesToString _ | exact ns_runesToString _ | exact ns_stuck _)
          | (dsimp only; repeat' (first | with_reducible exact ns_intToString _ | with_reducible exact ns_bytesToString _ | with_reducible exact ns_runesToString _ | with_reducible exact ns_stuck _ | with_reducible exact ns_uns _ | with_reducible exact ns_pure _ | with_reducible exact ns_underlying _ | with_reducible refine NS.bind ?_ (fun _ => ?_) | split))
      · rename_i e e' hs hd
        split at hf
        · rename_i b o' n c hq
          have hl1 : l ≤ 1 := by rw [hlv] at hlC; omega
          rw [hq] at hx
          rw [hx.2]
          refine ns_under hs (ns_under hd ?_)
          show NS l C.P (underlying e' >>= fun _ => _)
          refine NS.bind (ns_underlying _) fun _ => ?_
          split
          · exact NS.bind (ns_markS hl1 _) fun _ => ns_pure _
          · exact ns_uns _
        · cases hf
      · cases hf
    · rename_i k hq hd
      have : isNo (ev C tm x).int = false := by
        cases hi : (ev C tm x).int with
        | no => exact absurd hi (by assumption)
        | l k n => rfl
        | s k n => rfl
      obtain ⟨k', n', e1⟩ := int_isval this hx
      rw [e1]
      exact NS.bind (ns_underlying _) fun s' => ns_under (by assumption) (by cases s' <;> exact ns_pure _)
    · cases hf
  | fieldAddr t x f =>
    rw [hop] at hf
    dsimp only at hf ⊢
    refine NS.bind ?_ fun _ => ns_pure _
    split at hf
    · have hl1 : l ≤ 1 := by rw [hlv] at hlC; omega
      exact ns_fieldAt hl1 _ _ _
    · split at hf
      · rename_i fs hfs
        split at hf
        · rename_i m hsz
          unfold Instr.fieldAt
          refine ns_under hfs ?_
          cases hfd : fs[f]? with
          | none => simp only [hfd]; exact ns_stuck _
          | some fd =>
            simp only [hfd]
            refine NS.bind (ns_sureAddr _) fun _ => NS.bind ?_ fun _ => ns_pure _
            rw [hfd] at hsz
            simp only [Option.bind_some, sizeA] at hsz
            obtain ⟨i, hi, hi2⟩ := Option.map_eq_some_iff.1 hsz
            unfold fieldPlace
            refine ns_size hi ?_
            rw [if_neg (by rw [hi2]; omega)]
            exact ns_pure _
        · cases hf
      · cases hf
  | lookup t x i ok =>
    rw [hop] at hf
    dsimp only at hf
    split at hf
    · have hl1 : l ≤ 1 := by rw [hlv] at hlC; omega
      exact NS.bind (ns_lookup hl1 _ _ _ _) fun _ => ns_pure _
    · cases hf
  | mapUpdate t x i v =>
    rw [hop] at hf
    dsimp only at hf
    split at hf
    · have hl1 : l ≤ 1 := by rw [hlv] at hlC; omega
      exact NS.bind (ns_mapUpdate hl1 _ _ _ _) fun _ => ns_pure _
    · cases hf
  | panic x =>
    rw [hop] at hf
    have hx := ev_R hr x
    dsimp only at hf ⊢
    split at hf
    · rename_i t v hq
      rw [hq] at hx
      rw [hx.2]
      exact NS.bind (ns_goPanic _) fun _ => ns_pure _
    · cases hf
  | defer c => exact NS.bind ns_resolve fun _ => ns_pure _
  | call c =>
    rw [hop] at hf hc
    obtain ⟨callee, args, ats⟩ := c
    dsimp only at hf hc ⊢
    cases callee with
    | value f => cases hc
    | invoke x m => cases hf
    | builtin b =>
      cases b
      all_goals try (cases hf; done)
      case append =>
        exact (NS.bind (ns_append _ _ _) fun _ => ns_pure _ : NS l C.P (Builtin.append_ ats o.type (args.map a.eval) >>= fun x => pure (Next.value x)))
      case copy => exact (NS.bind (ns_copy _ _ _) fun _ => ns_pure _ : NS l C.P (Builtin.copy_ ats o.type (args.map a.eval) >>= fun x => pure (Next.value x)))
      case len => exact (NS.bind (ns_len _ _ _) fun _ => ns_pure _ : NS l C.P (Builtin.len_ ats o.type (args.map a.eval) >>= fun x => pure (Next.value x)))
      case cap => exact (NS.bind (ns_cap _ _ _) fun _ => ns_pure _ : NS l C.P (Builtin.cap_ ats o.type (args.map a.eval) >>= fun x => pure (Next.value x)))
      case min => exact (NS.bind (ns_min _ _ _) fun _ => ns_pure _ : NS l C.P (Builtin.min_ ats o.type (args.map a.eval) >>= fun x => pure (Next.value x)))
      case max => exact (NS.bind (ns_max _ _ _) fun _ => ns_pure _ : NS l C.P (Builtin.max_ ats o.type (args.map a.eval) >>= fun x => pure (Next.value x)))
  | _ => rw [hop] at hf; cases hf

end
end Go.Ax
