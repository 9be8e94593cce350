/- Layer 12: the laws StepMoves and StepRows, run. -/
import Derived.Test.YtpnikmkijedmbaaDoorSa4
namespace Go.Proofs.YtpnikmkijedmbaaDoor
open Go Go.Ax

/-- Two lists of numbers, held against each other as the program does. -/
def eqL : List Int → List Int → Bool
  | a :: l, b :: l' => (a == b) && eqL l l'
  | _, _ => true
theorem eqL_self : ∀ l, eqL l l = true
  | [] => rfl
  | a :: l => by simp [eqL, eqL_self l]

theorem fn_StepMoves : FnOk Tryd.prog 4 Tryd.f4 := ⟨Tryd.func4, by kernel_rfl⟩
def iter (f : List Int → List Int) : Nat → List Int → List Int
  | 0, l => l
  | n + 1, l => f (iter f n l)
theorem run_StepMoves (f : Nat → Int) : callA (cfg [] [p_wakes12, p_Pi]) false 3000 Tryd.f4 [L25 (tab 25 f)] (memG gdA) =
    .done (.one (.sb (eqL (tab 25 f) (iter piL 24 (tab 25 f))))) Mem.empty := by kernel_rfl
theorem pi24 (f : Nat → Int) : iter piL 24 (tab 25 f) = tab 25 f := by kernel_rfl
theorem law_StepMoves {W : World} {base : Nat} {args : Array Value} (hsz : Tryd.f4.params.toList.length = args.toList.length)
    (hval : ∀ (j : Nat) t v, Tryd.f4.params[j]? = some t → args[j]? = some v → Value.okWide Tryd.prog W .any base t v) (hgd : GD gdA W.heap.size W) :
    Calls Tryd.prog 4 args W fun e w' => e = .returned (.bool true) ∧ RowKit.Below W.heap.size W w' :=
  law_e (C := cfg [] [p_wakes12, p_Pi]) (cok (by simp) (by simp [ps_wakes12, ps_Pi])) rfl rfl fn_StepMoves (shs := [.l .u64 25]) (by kernel_rfl) 3000
    (fun fs => [L25 (tab 25 (fs 0))]) (fun _ => rfl) (fun fs _ => ⟨_, run_StepMoves (fs 0), .inl (by rw [pi24, eqL_self])⟩) hsz hval hgd

end Go.Proofs.YtpnikmkijedmbaaDoor
