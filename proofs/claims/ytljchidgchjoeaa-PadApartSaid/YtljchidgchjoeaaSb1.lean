/- Layer 04 (count): the configuration; sums and differences of counts. -/
import Derived.Test.YtljchidgchjoeaaLp
import Derived.Test.YtljchidgchjoeaaRows
import Derived.Laws.Externs
namespace Go.Proofs.Ytljchidgchjoeaa
open Go Go.Ax

def gdB : List (Nat × List SV) := []
noncomputable def cfgB (fns : List (Nat × Func)) (ps : List (Nat × (List AV → Mem → Option (List Prop × AV)))) (ex : List (Nat × (List AV → Option (List Prop × AV)))) : Cfg := { P := Try.prog, fns := fns, gl := glFrom 0 gdB, gd := gdB, ps := ps, ex := ex }
theorem mixedB : Try.prog.follows .mixedOrders = true := by kernel_rfl
theorem cokB {fns : List (Nat × Func)} {ps : List (Nat × (List AV → Mem → Option (List Prop × AV)))} {ex : List (Nat × (List AV → Option (List Prop × AV)))} (h1 : ∀ p ∈ fns, FnOk Try.prog p.1 p.2) (h2 : ∀ p ∈ ps, PSOk (cfgB [] [] []) p.1 p.2) (h3 : ∀ p ∈ ex, ExOk Try.prog p.1 p.2) : COk (cfgB fns ps ex) :=
  ⟨mixedB, h1, fun p hp => (h2 p hp).cast rfl rfl rfl, (fun p hp => by cases hp), h3, (fun p hp => by cases hp), (fun p hp => by cases hp), (fun p hp => by cases hp)⟩
theorem upB {fns : List (Nat × Func)} {ps : List (Nat × (List AV → Mem → Option (List Prop × AV)))} {ex : List (Nat × (List AV → Option (List Prop × AV)))} {g : Nat} {F : List AV → Mem → Option (List Prop × AV)} (h : PSOk (cfgB fns ps ex) g F) : PSOk (cfgB [] [] []) g F := h.cast rfl rfl rfl

/-! ## Numbers -/

theorem ok64 {n : Int} (h1 : -9223372036854775808 ≤ n) (h2 : n ≤ 9223372036854775807) : okI .i64 n := by
  unfold okI; simp [IntKind.min, IntKind.max, IntKind.bits, IntKind.signed]; omega
theorem of_ok64 {n : Int} (h : okI .i64 n) : -9223372036854775808 ≤ n ∧ n ≤ 9223372036854775807 := by
  unfold okI at h; simp [IntKind.min, IntKind.max, IntKind.bits, IntKind.signed] at h; omega
theorem of_oku {n : Int} (h : okI .u64 n) : 0 ≤ n ∧ n ≤ 18446744073709551615 := by
  unfold okI at h; simp [IntKind.min, IntKind.max, IntKind.bits, IntKind.signed] at h; omega
theorem oku {n : Int} (h1 : 0 ≤ n) (h2 : n ≤ 18446744073709551615) : okI .u64 n := by
  unfold okI; simp [IntKind.min, IntKind.max, IntKind.bits, IntKind.signed]; omega
def one (l : List (List Int)) (i : Nat) : Int := (l.getD i []).getD 0 0
def at2 (l : List (List Int)) (i j : Nat) : Int := (l.getD i []).getD j 0

/-! ## What the model stands in for -/

def u64? : AV → Option Int
  | .one (.li .u64 n) => some n
  | .one (.si .u64 n) => some n
  | _ => none
theorem u64_R {x : AV} {n : Int} (h : u64? x = some n) {env : Nat → Nat} {m : Nat} {v : Value} (hv : x.R env m v) : okI .u64 n ∧ v = .int .u64 n := by
  unfold u64? at h
  split at h
  · cases h; exact hv
  · cases h; exact hv
  · cases h
def exAdd : List AV → Option (List Prop × AV) := fun args => match args with
  | [x, y, c] => match u64? x, u64? y, u64? c with
    | some a, some b, some d => some ([d ≤ 1], .tup [.one (.si .u64 ((a + b + d) % 18446744073709551616)), .one (.si .u64 ((a + b + d) / 18446744073709551616))])
    | _, _, _ => none
  | _ => none
def exSub : List AV → Option (List Prop × AV) := fun args => match args with
  | [x, y, c] => match u64? x, u64? y, u64? c with
    | some a, some b, some d => some ([d ≤ 1], .tup [.one (.si .u64 ((a - b - d) % 18446744073709551616)), .one (.si .u64 (iteI (decide (a < b + d)) 1 0))])
    | _, _, _ => none
  | _ => none
theorem three_R {x y c : AV} {env : Nat → Nat} {m : Nat} {vals : List Value} (h : All2 (AV.R env m) [x, y, c] vals) : ∃ a b d, vals = [a, b, d] ∧ x.R env m a ∧ y.R env m b ∧ c.R env m d := by
  match vals, h with
  | [a, b, d], h => exact ⟨a, b, d, rfl, h.1, h.2.1, h.2.2.1⟩
  | [], h => exact h.elim
  | [_], h => exact h.2.elim
  | [_, _], h => exact h.2.2.elim
  | _ :: _ :: _ :: _ :: _, h => exact h.2.2.2.elim
theorem ex_Add : ExOk Try.prog 34 exAdd := by
  intro args ps r h hp w env m vals hv
  unfold exAdd at h
  split at h
  · rename_i x y c
    split at h
    · rename_i a b d hx hy hc
      cases h
      obtain ⟨vx, vy, vc, rfl, rx, ry, rc⟩ := three_R hv
      obtain ⟨ka, rfl⟩ := u64_R hx rx
      obtain ⟨kb, rfl⟩ := u64_R hy ry
      obtain ⟨kd, rfl⟩ := u64_R hc rc
      have h1 := of_oku ka
      have h2 := of_oku kb
      have h3 := of_oku kd
      have h4 : d ≤ 1 := hp.1
      refine ⟨.tuple #[.int .u64 ((a + b + d) % 18446744073709551616), .int .u64 ((a + b + d) / 18446744073709551616)], ?_, _, rfl, ⟨oku (by omega) (by omega), rfl⟩, ⟨oku (by omega) (by omega), rfl⟩, trivial⟩
      rw [run_callFunc_extern Try.func34 (by kernel_rfl) (by kernel_rfl) (by kernel_rfl) (e := add64Entry) (by kernel_rfl)]
      rw [show ([Value.int .u64 a, .int .u64 b, .int .u64 d] : List Value).toArray = #[.int .u64 a, .int .u64 b, .int .u64 d] from rfl, run_add64 a b d h1.1 h2.1 h3.1 h4]
      rfl
    · cases h
  · cases h
def subEntry : Array Value → Sem Value := (Extern.MathBitsCarry.rows.getD 1 ("", fun _ => pure .nilIface)).2
theorem run_sub (a b : Nat) (d : Nat) (hd : d ≤ 1) (w : World) : (subEntry #[.int .u64 a, .int .u64 b, .int .u64 d]).run Try.prog w =
    .ok (.tuple #[.int .u64 (((a + 18446744073709551616 - b - d) % 18446744073709551616 : Nat) : Int), .int .u64 ((if a < b + d then 1 else 0 : Nat) : Int)]) w := by
  have : d = 0 ∨ d = 1 := by omega
  rcases this with rfl | rfl <;> rfl
theorem ex_Sub : ExOk Try.prog 36 exSub := by
  intro args ps r h hp w env m vals hv
  unfold exSub at h
  split at h
  · rename_i x y c
    split at h
    · rename_i a b d hx hy hc
      cases h
      obtain ⟨vx, vy, vc, rfl, rx, ry, rc⟩ := three_R hv
      obtain ⟨ka, rfl⟩ := u64_R hx rx
      obtain ⟨kb, rfl⟩ := u64_R hy ry
      obtain ⟨kd, rfl⟩ := u64_R hc rc
      have h1 := of_oku ka
      have h2 := of_oku kb
      have h3 := of_oku kd
      have h4 : d ≤ 1 := hp.1
      obtain ⟨a, rfl⟩ := Int.eq_ofNat_of_zero_le h1.1
      obtain ⟨b, rfl⟩ := Int.eq_ofNat_of_zero_le h2.1
      obtain ⟨d, rfl⟩ := Int.eq_ofNat_of_zero_le h3.1
      refine ⟨.tuple #[.int .u64 (((a : Int) - b - d) % 18446744073709551616), .int .u64 (iteI (decide ((a : Int) < b + d)) 1 0)], ?_, _, rfl, ⟨oku (by omega) (by omega), rfl⟩, ⟨by cases decide ((a : Int) < b + d) <;> exact oku (by decide) (by decide), rfl⟩, trivial⟩
      rw [run_callFunc_extern Try.func36 (by kernel_rfl) (by kernel_rfl) (by kernel_rfl) (e := subEntry) (by kernel_rfl)]
      rw [show ([Value.int .u64 (a : Int), .int .u64 (b : Int), .int .u64 (d : Int)] : List Value).toArray = #[.int .u64 (a : Int), .int .u64 (b : Int), .int .u64 (d : Int)] from rfl, run_sub a b d (by omega)]
      have e1 : (((a + 18446744073709551616 - b - d) % 18446744073709551616 : Nat) : Int) = ((a : Int) - b - d) % 18446744073709551616 := by omega
      have e2 : ((if a < b + d then 1 else 0 : Nat) : Int) = iteI (decide ((a : Int) < b + d)) 1 0 := by
        by_cases h : a < b + d
        · have : ((a : Int) < b + d) := by omega
          simp [h, this, iteI]
        · have : ¬ ((a : Int) < b + d) := by omega
          simp [h, this, iteI]
      rw [e1, e2]
      rfl
    · cases h
  · cases h

/-! ## Counts as numbers -/

def C2 (hi lo : Int) : AV := .agg [.si .u64 hi, .si .u64 lo]
def valC (hi lo : Int) : Int := hi * 18446744073709551616 + lo
/-- A number as a count, or none. -/
def T_ok (ok : Bool) (M : Int) : GR := .t [.l .u64 [iteI ok (M / 18446744073709551616) 0, iteI ok (M % 18446744073709551616) 0], .b ok]
def fit (M : Int) : Bool := decide (0 ≤ M) && decide (M < 340282366920938463463374607431768211456)
def T_Add : List (List Int) → GR := fun l => T_ok (fit (valC (at2 l 0 0) (at2 l 0 1) + one l 1)) (valC (at2 l 0 0) (at2 l 0 1) + one l 1)
def T_Sub : List (List Int) → GR := fun l => T_ok (fit (valC (at2 l 0 0) (at2 l 0 1) - one l 1)) (valC (at2 l 0 0) (at2 l 0 1) - one l 1)

theorem fn_told : FnOk Try.prog 35 Try.f35 := ⟨Try.func35, by kernel_rfl⟩
def T_told : List (List Int) → GR := fun l => .t [.l .u64 [iteI (cmpI .gtr (one l 1) 0) 0 (at2 l 0 0), iteI (cmpI .gtr (one l 1) 0) 0 (at2 l 0 1)], .b (!(cmpI .gtr (one l 1) 0))]
def p_told := (35, gsum [.l .u64 2, .w .u64] (fun _ => []) T_told)
theorem run_told (h l c : Int) : callA (cfgB [] [] []) false 100 Try.f35 [C2 h l, .one (.si .u64 c)] (memG gdB) =
    .br (cmpI .gtr c 0) (.done (.tup [.agg [.li .u64 0, .li .u64 0], .one (.lb false)]) Mem.empty) (.done (.tup [.agg [.si .u64 h, .si .u64 l], .one (.lb true)]) Mem.empty) := by kernel_rfl

end Go.Proofs.Ytljchidgchjoeaa
