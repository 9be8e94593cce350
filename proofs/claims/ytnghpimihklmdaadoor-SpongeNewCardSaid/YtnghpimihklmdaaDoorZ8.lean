/- Layer 12: the reference's chi (its inner loop by a contract). -/
import Derived.Test.YtnghpimihklmdaaDoorZ7
namespace Go.Proofs.YtnghpimihklmdaaDoor
open Go Go.Ax
set_option linter.unusedSectionVars false
variable [JW]

def chiBits (p q r : Int) : List Int := tab 64 fun j => iteI (cmpI .eql ((bitsL q).getD j 0) 0) (binI .rem .i64 (binI .add .i64 ((bitsL p).getD j 0) ((bitsL r).getD j 0)) 2) ((bitsL p).getD j 0)
def chiV (p q r : Nat → Int) : List Int := tab 64 fun j => iteI (cmpI .eql (q j) 0) (binI .rem .i64 (binI .add .i64 (p j) (r j)) 2) (p j)

/-! ## The inner loop -/

noncomputable def cChiL : Cfg := { cfg [] [] with mg := [13] }
theorem cok_chiL : COk cChiL := ⟨mixedM, JW.hJ, (fun p hp => by cases hp), (fun p hp => by cases hp), (fun p hp => by cases hp), (fun p hp => by cases hp), (fun p hp => by cases hp), (fun p hp => by cases hp), (fun p hp => by cases hp), (fun p hp => by cases hp), (fun p hp => by cases hp)⟩
def si64 (l : List Int) : List SV := l.map (.si .i64)
def st_chi (v1 v2 v3 v4 v5 : Value) : TM := slots 63 [(1, .one (.raw v1)), (2, .one (.raw v2)), (3, .one (.raw v3)), (4, .one (.raw v4)), (5, .one (.raw v5)), (6, .one (.ptr 2 0)), (7, .one (.ptr 3 0)), (8, .one (.ptr 4 0)), (9, .one (.li .i64 0))]
def known : AV → Bool
  | .one .any => false
  | .one _ => true
  | _ => false
def cells64 (mem : Mem) (b : Nat) : Option (TypeId × List Int) := match mem.get b with
  | some (.cells t l) => match intsOf .i64 l with
    | some es => match Nat.beq es.length 64 with | true => some (t, es) | false => none
    | none => none
  | _ => none
def F_chi : TM → Mem → Option (List Cnd × AE × TM × Mem) := fun tm mem =>
  match tm.get 6, tm.get 7, tm.get 8, tm.get 9 with
  | .one (.ptr p o), .one (.ptr q o'), .one (.ptr r o''), .one (.li .i64 i) => match cells64 mem p, cells64 mem q, cells64 mem r with
    | some (t, P), some (_, Q), some (_, R) => match Nat.beq tm.sz 63 && Nat.beq o 0 && Nat.beq o' 0 && Nat.beq o'' 0 && decide (i = 0) && !(Nat.beq p q) && !(Nat.beq p r) && known (tm.get 1) && known (tm.get 2) && known (tm.get 3) && known (tm.get 4) && known (tm.get 5) with
      | true => some ([], .exit 4, slots 63 [(1, tm.get 1), (2, tm.get 2), (3, tm.get 3), (4, tm.get 4), (5, tm.get 5), (6, tm.get 6)], mem.set p (.cells t (si64 (chiV (nth P) (nth Q) (nth R)))))
      | false => none
    | _, _, _ => none
  | _, _, _, _ => none

theorem known_raw {env env' : Nat → Nat} {m m' : Nat} {x : AV} {v : Value} (hk : known x = true) (h : x.R env m v) : (AV.one (.raw v)).R env' m' v := by
  match x, hk, h with
  | .one s, hk, h => exact raw_R (s := s) h (fun e => by subst e; cases hk)

theorem cells64_spec {mem : Mem} {b : Nat} {t : TypeId} {es : List Int} (h : cells64 mem b = some (t, es)) : ∃ l, mem.get b = some (.cells t l) ∧ intsOf .i64 l = some es ∧ es.length = 64 := by
  unfold cells64 at h
  split at h
  · rename_i t' l hl
    split at h
    · rename_i es' he
      split at h
      · rename_i hn; cases h; exact ⟨l, hl, he, Nat.eq_of_beq_eq_true hn⟩
      · cases h
    · cases h
  · cases h

/-! ## The function -/

def chiR (es : List Int) : List Int := tab 25 fun i => ofI (chiBits (nth es i) (nth es (5 * (i / 5) + (i % 5 + 1) % 5)) (nth es (5 * (i / 5) + (i % 5 + 2) % 5)))
def chiRV (T : Int → Nat → Int) (U : List Int → Int) (es : List Int) : List Int := tab 25 fun i => U (chiV (T (nth es i)) (T (nth es (5 * (i / 5) + (i % 5 + 1) % 5))) (T (nth es (5 * (i / 5) + (i % 5 + 2) % 5))))
def needN (p : Prop) : Nat → Out → Out
  | 0, o => o
  | n + 1, o => .need p (needN p n o)
theorem needN_sat {p : Prop} {K : AV → Mem → Prop} {o : Out} (hp : p) (h : o.sat K) : ∀ n, (needN p n o).sat K
  | 0 => h
  | n + 1 => ⟨hp, needN_sat hp h n⟩
def bitT (x : Int) (i : Nat) : Int := bI ((bv x).getLsbD i)
theorem chi_bit (a b c : Bool) : iteI (cmpI .eql (bI b) 0) (binI .rem .i64 (binI .add .i64 (bI a) (bI c)) 2) (bI a) = bI (a ^^ (c && !b)) := by cases a <;> cases b <;> cases c <;> rfl
theorem chi_of (p q r : Int) : ofI (chiBits p q r) = xo p (binI .andNot .u64 r q) := by
  show _ = binI .xor .u64 p _
  rw [xor_nb, andNot_nb, bv_nb, ← of_bits]
  congr 1
  refine tab_congr fun j hj => ?_
  have hi := hj
  rw [bitsL, bitsL, bitsL, tab_get hi, tab_get hi, tab_get hi, chi_bit, BitVec.getLsbD_xor, BitVec.getLsbD_and, BitVec.getLsbD_not]
  simp [hi]
theorem chi_ofV (p q r : Int) : chiV (bitT p) (bitT q) (bitT r) = chiBits p q r := tab_congr fun j hj => by rw [bitsL, bitsL, bitsL, tab_get hj, tab_get hj, tab_get hj]; rfl
theorem chiR_eq (es : List Int) : chiRV bitT ofI es = chiL es := tab_congr fun i _ => by rw [chi_ofV]; exact chi_of _ _ _
end Go.Proofs.YtnghpimihklmdaaDoor

