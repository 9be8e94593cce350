/- Layer 12: the law StepRows, run: the row is a literal, of 4. -/
import Derived.Test.YtpnikmkijedmbaaDoorSa5
namespace Go.Proofs.YtpnikmkijedmbaaDoor
open Go Go.Ax

/-- Lists held against each other number by number: unlike ones end the run. -/
def neTree : List Int → List Int → Out → Out
  | a :: l, b :: l', o => .br (cmpI .neq a b) (.done (.one (.lb false)) Mem.empty) (neTree l l' o)
  | _, _, o => o
theorem neTree_sat {K : AV → Mem → Prop} {o : Out} (h : o.sat K) : ∀ l, (neTree l l o).sat K
  | [] => h
  | a :: l => ⟨fun he => absurd he (by simp [cmpI]), fun _ => neTree_sat h l⟩

def mixL (y : Nat) (xs zs : List Int) : List Int := tab 25 fun i => match Nat.beq (i / 5) y with | true => nth zs i | false => nth xs i
theorem fn_StepRows : FnOk Tryd.prog 5 Tryd.f5 := ⟨Tryd.func5, by kernel_rfl⟩
def rowTree (f g : Nat → Int) (y : Nat) : Out := neTree (chiL (mixL y (tab 25 f) (tab 25 g))) (mixL y (chiL (tab 25 f)) (chiL (tab 25 g))) (.done (.one (.lb true)) Mem.empty)
def rowE (r : Int) : Int := binI .rem .i64 (IntKind.i64.wrap r) 5
theorem run_StepRows (f g : Nat → Int) (r : Int) : callA (cfgS [] [p_wakes12, p_Chi] [(8, (7, [0, 1, 2, 3, 4]))]) false 3000 Tryd.f5 [L25 (tab 25 f), L25 (tab 25 g), .one (.si .u8 r)] (memG gdA) =
    .br (decide (rowE r = 0)) (rowTree f g 0) (.br (decide (rowE r = 1)) (rowTree f g 1) (.br (decide (rowE r = 2)) (rowTree f g 2) (.br (decide (rowE r = 3)) (rowTree f g 3) (.br (decide (rowE r = 4)) (rowTree f g 4) (.bad 30))))) := by kernel_rfl
theorem chi_mix (f g : Nat → Int) (y : Nat) (h : y < 5) : chiL (mixL y (tab 25 f) (tab 25 g)) = mixL y (chiL (tab 25 f)) (chiL (tab 25 g)) := by
  rcases (show y = 0 ∨ y = 1 ∨ y = 2 ∨ y = 3 ∨ y = 4 by omega) with e | e | e | e | e <;> subst e <;> kernel_rfl
theorem rowTree_sat (f g : Nat → Int) (y : Nat) (h : y < 5) : (rowTree f g y).sat fun v _ => v = .one (.sb true) ∨ v = .one (.lb true) := by
  unfold rowTree
  rw [chi_mix f g y h]
  refine neTree_sat ?_ _
  exact Or.inr rfl

theorem law_StepRows {W : World} {base : Nat} {args : Array Value} (hsz : Tryd.f5.params.toList.length = args.toList.length)
    (hval : ∀ (j : Nat) t v, Tryd.f5.params[j]? = some t → args[j]? = some v → Value.okWide Tryd.prog W .any base t v) (hgd : GD gdA W.heap.size W) :
    Calls Tryd.prog 5 args W fun e w' => e = .returned (.bool true) ∧ RowKit.Below W.heap.size W w' :=
  law_e (C := cfgS [] [p_wakes12, p_Chi] [(8, (7, [0, 1, 2, 3, 4]))]) (cokS (by simp) (by simp [ps_wakes12, ps_Chi])) rfl rfl fn_StepRows (shs := [.l .u64 25, .l .u64 25, .w .u8]) (by kernel_rfl) 3000
    (fun fs => [L25 (tab 25 (fs 0)), L25 (tab 25 (fs 1)), .one (.si .u8 (fs 2 0))]) (fun _ => rfl) (fun fs h => by
      refine ⟨_, run_StepRows (fs 0) (fs 1) (fs 2 0), ?_⟩
      have hr : okI .u8 (fs 2 0) := h.2.2.1.2 _ (by simp [tab, Sh.len])
      have hr : 0 ≤ fs 2 0 ∧ fs 2 0 ≤ 255 := by unfold okI at hr; simp [IntKind.min, IntKind.max, IntKind.bits, IntKind.signed] at hr; omega
      have he : rowE (fs 2 0) = fs 2 0 % 5 := by
        unfold rowE
        rw [show IntKind.i64.wrap (fs 2 0) = fs 2 0 from wrap_ok (ok64 (by omega) (by omega)), rem64, Int.tmod_eq_emod_of_nonneg hr.1]
      rw [he]
      refine ⟨fun _ => rowTree_sat _ _ 0 (by omega), fun h0 => ⟨fun _ => rowTree_sat _ _ 1 (by omega), fun h1 => ⟨fun _ => rowTree_sat _ _ 2 (by omega), fun h2 => ⟨fun _ => rowTree_sat _ _ 3 (by omega), fun h3 => ⟨fun _ => rowTree_sat _ _ 4 (by omega), fun h4 => ?_⟩⟩⟩⟩⟩
      have := of_decide_eq_false h0
      have := of_decide_eq_false h1
      have := of_decide_eq_false h2
      have := of_decide_eq_false h3
      have := of_decide_eq_false h4
      omega) hsz hval hgd

end Go.Proofs.YtpnikmkijedmbaaDoor
