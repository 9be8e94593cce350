/- Package count: numbers of 128 bits: sums; what the model stands in for. -/
import Derived.Test.YtljchidgchjoeaaM3
import Derived.Laws.Externs
namespace Go.Proofs.Ytljchidgchjoeaa
open Go Go.Ax
set_option linter.unusedSectionVars false
variable [JW]

def u64? : AV → Option Int
  | .one (.li .u64 n) => some n
  | .one (.si .u64 n) => some n
  | _ => none
theorem u64_R {x : AV} {n : Int} (h : u64? x = some n) {env : Nat → Nat} {m : Nat} {v : Value} (hv : x.R env m v) : okI .u64 n ∧ v = .int .u64 n := by
  unfold u64? at h
  split at h
  · cases h; exact hv
  · cases h; exact hv
  · cases h
def exAdd : List AV → Option (List Prop × AV) := fun args => match args with
  | [x, y, c] => match u64? x, u64? y, u64? c with
    | some a, some b, some d => some ([d ≤ 1], .tup [.one (.si .u64 ((a + b + d) % 18446744073709551616)), .one (.si .u64 ((a + b + d) / 18446744073709551616))])
    | _, _, _ => none
  | _ => none
theorem three_R {x y c : AV} {env : Nat → Nat} {m : Nat} {vals : List Value} (h : All2 (AV.R env m) [x, y, c] vals) : ∃ a b d, vals = [a, b, d] ∧ x.R env m a ∧ y.R env m b ∧ c.R env m d := by
  match vals, h with
  | [a, b, d], h => exact ⟨a, b, d, rfl, h.1, h.2.1, h.2.2.1⟩
  | [], h => exact h.elim
  | [_], h => exact h.2.elim
  | [_, _], h => exact h.2.2.elim
  | _ :: _ :: _ :: _ :: _, h => exact h.2.2.2.elim
theorem ns_three {P : Program} {l : Nat} (nm : String) (a : Array Value) : NS l P (Extern.MathBitsCarry.three nm a) := by
  match a with
  | ⟨[x, y, c]⟩ =>
    refine NS.bind (ns_asInt c) fun _ => ?_
    dsimp only
    split
    · exact NS.bind (ns_uns _) fun _ => NS.bind (ns_asInt _) fun _ => NS.bind (ns_asInt _) fun _ => ns_pure _
    · exact NS.bind (ns_asInt _) fun _ => NS.bind (ns_asInt _) fun _ => ns_pure _
  | ⟨[]⟩ => exact ns_stuck _
  | ⟨[_]⟩ => exact ns_stuck _
  | ⟨[_, _]⟩ => exact ns_stuck _
  | ⟨_ :: _ :: _ :: _ :: _⟩ => exact ns_stuck _
theorem ex_Add : ExAll (34, exAdd) := by
  refine ⟨?_, fun l vals => ns_callExt Try.func34 (by kernel_rfl) (by kernel_rfl) (by kernel_rfl) (e := add64Entry) (by kernel_rfl) (fun args => NS.bind (ns_three _ _) fun _ => ns_pure _) vals⟩
  intro args ps r h hp w env m vals hv
  show ∃ v, (callFunc 34 vals.toArray).run Try.prog w = .ok (.value v) w ∧ r.R env m v
  change exAdd args = some (ps, r) at h
  unfold exAdd at h
  split at h
  · rename_i x y c
    split at h
    · rename_i a b d hx hy hc
      cases h
      obtain ⟨vx, vy, vc, rfl, rx, ry, rc⟩ := three_R hv
      obtain ⟨ka, rfl⟩ := u64_R hx rx
      obtain ⟨kb, rfl⟩ := u64_R hy ry
      obtain ⟨kd, rfl⟩ := u64_R hc rc
      have h1 := of_oku ka
      have h2 := of_oku kb
      have h3 := of_oku kd
      have h4 : d ≤ 1 := hp.1
      refine ⟨.tuple #[.int .u64 ((a + b + d) % 18446744073709551616), .int .u64 ((a + b + d) / 18446744073709551616)], ?_, _, rfl, ⟨oku (by omega) (by omega), rfl⟩, ⟨oku (by omega) (by omega), rfl⟩, trivial⟩
      rw [run_callFunc_extern Try.func34 (by kernel_rfl) (by kernel_rfl) (by kernel_rfl) (e := add64Entry) (by kernel_rfl)]
      rw [show ([Value.int .u64 a, .int .u64 b, .int .u64 d] : List Value).toArray = #[.int .u64 a, .int .u64 b, .int .u64 d] from rfl, run_add64 a b d h1.1 h2.1 h3.1 h4]
      rfl
    · cases h
  · cases h
end Go.Proofs.Ytljchidgchjoeaa
