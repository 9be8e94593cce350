/- Layer 12 (step): Offset; the law StepOffsets, run. -/
import Derived.Test.YtpnikmkijedmbaaDoorSa1
namespace Go.Proofs.YtpnikmkijedmbaaDoor
open Go Go.Ax

theorem atI_range (x y : Int) : 0 ≤ atI x y ∧ atI x y < 25 := by unfold atI; omega

def T_Offset : List (List Int) → GR := fun l => .p (.w .i64 (sel offs (atI (one l 0) (one l 1))))
def p_Offset := (14, gsum [.w .i64, .w .i64] (fun _ => []) T_Offset)

theorem fn_Offset : FnOk Tryd.prog 14 Tryd.f14 := ⟨Tryd.func14, by kernel_rfl⟩

theorem run_Offset (x y : Int) : callA (cfg [] [p_at]) false 100 Tryd.f14 [.one (.si .i64 x), .one (.si .i64 y)] (memG gdA) =
    .need (0 ≤ atI x y) (.need (atI x y < 25) (.need (0 ≤ atI x y) (.need (atI x y < 25) (.done (.one (.si .i64 (sel offs (atI x y)))) Mem.empty)))) := by kernel_rfl

theorem ps_Offset : PSOk (cfg [] []) p_Offset.1 p_Offset.2 :=
  up (psok_e (C := cfg [] [p_at]) (cok (by simp) (by simp [ps_at])) rfl rfl fn_Offset rfl 100 (fun fs => [.one (.si .i64 (fs 0 0)), .one (.si .i64 (fs 1 0))]) (fun _ => rfl) fun fs _ _ =>
    have h := atI_range (fs 0 0) (fs 1 0)
    ⟨_, run_Offset (fs 0 0) (fs 1 0), h.1, h.2, h.1, h.2, sat_same rfl⟩)

/-! ## The reference's offsets -/

theorem fn_place : FnOk Tryd.prog 37 Tryd.f37 := ⟨Tryd.func37, by kernel_rfl⟩
theorem fn_Offsets : FnOk Tryd.prog 15 Tryd.f15 := ⟨Tryd.func15, by kernel_rfl⟩
theorem fn_Constant : FnOk Tryd.prog 21 Tryd.f21 := ⟨Tryd.func21, by kernel_rfl⟩
theorem fn_wakes12 : FnOk Tryd.prog 13 Tryd.f13 := ⟨Tryd.func13, by kernel_rfl⟩

def T_Offsets : List (List Int) → GR := fun _ => .p (.l .i64 offs)
def p_Offsets := (15, gsum [] (fun _ => []) T_Offsets)

theorem run_Offsets : callA (cfg [(37, Tryd.f37)] []) false 1000 Tryd.f15 [] (memG gdA) = .done (.agg (offs.map (.li .i64))) Mem.empty := by kernel_rfl

theorem ps_Offsets : PSOk (cfg [] []) p_Offsets.1 p_Offsets.2 :=
  up (psok_e (C := cfg [(37, Tryd.f37)] []) (cok (by simp [fn_place]) (by simp)) rfl rfl fn_Offsets rfl 1000 (fun _ => []) (fun _ => rfl) fun fs _ _ =>
    ⟨_, run_Offsets, flat_li, fun _ h => agg_li_si h⟩)

/-! ## wakes -/

def T_wakes12 : List (List Int) → GR := fun _ => .p (.b true)
def p_wakes12 := (13, gsum [] (fun _ => []) T_wakes12)

theorem run_wakes12 : callA (cfg [(21, Tryd.f21)] [p_Offset]) false 1000 Tryd.f13 [] (memG gdA) = .done (.one (.lb true)) Mem.empty := by kernel_rfl

theorem ps_wakes12 : PSOk (cfg [] []) p_wakes12.1 p_wakes12.2 :=
  up (psok_e (C := cfg [(21, Tryd.f21)] [p_Offset]) (cok (by simp [fn_Constant]) (by simp [ps_Offset])) rfl rfl fn_wakes12 rfl 1000 (fun _ => []) (fun _ => rfl) fun fs _ _ =>
    ⟨_, run_wakes12, rfl, fun _ h => h⟩)

/-! ## The law StepOffsets -/

theorem fn_StepOffsets : FnOk Tryd.prog 3 Tryd.f3 := ⟨Tryd.func3, by kernel_rfl⟩

def offTree (i k x y : Int) : Out :=
  let j := binI .add .i64 i (binI .mul .i64 5 k)
  .need (0 ≤ j) (.need (j < 25) (.done (.one (.sb (sel offs (atI x y) == sel offs j))) Mem.empty))

theorem run_StepOffsets (x y : Int) : callA (cfg [] [p_wakes12, p_Offset, p_Offsets]) false 100 Tryd.f3 [.one (.si .i64 x), .one (.si .i64 y)] (memG gdA) =
    .br (decide (binI .rem .i64 x 5 < 0))
      (.br (decide (binI .rem .i64 y 5 < 0)) (offTree (binI .add .i64 (binI .rem .i64 x 5) 5) (binI .add .i64 (binI .rem .i64 y 5) 5) x y) (offTree (binI .add .i64 (binI .rem .i64 x 5) 5) (binI .rem .i64 y 5) x y))
      (.br (decide (binI .rem .i64 y 5 < 0)) (offTree (binI .rem .i64 x 5) (binI .add .i64 (binI .rem .i64 y 5) 5) x y) (offTree (binI .rem .i64 x 5) (binI .rem .i64 y 5) x y)) := by kernel_rfl

theorem offTree_sat {i k x y : Int} (hi : i = x % 5) (hk : k = y % 5) : (offTree i k x y).sat fun v _ => v = .one (.sb true) ∨ v = .one (.lb true) := by
  subst hi; subst hk
  unfold offTree
  rw [mul64 (by omega) (by omega), add64 (by omega) (by omega)]
  have h := atI_range x y
  exact ⟨h.1, h.2, .inl (by rw [show x % 5 + 5 * (y % 5) = atI x y from rfl]; simp)⟩

theorem law_StepOffsets {W : World} {base : Nat} {args : Array Value} (hsz : Tryd.f3.params.toList.length = args.toList.length)
    (hval : ∀ (j : Nat) t v, Tryd.f3.params[j]? = some t → args[j]? = some v → Value.okWide Tryd.prog W .any base t v) (hgd : GD gdA W.heap.size W) :
    Calls Tryd.prog 3 args W fun e w' => e = .returned (.bool true) ∧ RowKit.Below W.heap.size W w' :=
  law_e (C := cfg [] [p_wakes12, p_Offset, p_Offsets]) (cok (by simp) (by simp [ps_wakes12, ps_Offset, ps_Offsets])) rfl rfl fn_StepOffsets (shs := [.w .i64, .w .i64]) (by kernel_rfl) 100
    (fun fs => [.one (.si .i64 (fs 0 0)), .one (.si .i64 (fs 1 0))]) (fun _ => rfl) (fun fs _ => by
      refine ⟨_, run_StepOffsets (fs 0 0) (fs 1 0), ?_⟩
      have key : ∀ z : Int, (binI .rem .i64 z 5 < 0 → binI .add .i64 (binI .rem .i64 z 5) 5 = z % 5) ∧ (¬ binI .rem .i64 z 5 < 0 → binI .rem .i64 z 5 = z % 5) := fun z => by
        rw [rem64, tmod_if]
        refine ⟨fun h => ?_, fun h => ?_⟩
        · rw [add64 (by split <;> omega) (by split <;> omega)]
          split at h <;> split <;> omega
        · split at h <;> split <;> omega
      refine ⟨fun h1 => ⟨fun h2 => ?_, fun h2 => ?_⟩, fun h1 => ⟨fun h2 => ?_, fun h2 => ?_⟩⟩
      · exact offTree_sat ((key _).1 (of_decide_eq_true h1)) ((key _).1 (of_decide_eq_true h2))
      · exact offTree_sat ((key _).1 (of_decide_eq_true h1)) ((key _).2 (of_decide_eq_false h2))
      · exact offTree_sat ((key _).2 (of_decide_eq_false h1)) ((key _).1 (of_decide_eq_true h2))
      · exact offTree_sat ((key _).2 (of_decide_eq_false h1)) ((key _).2 (of_decide_eq_false h2))) hsz hval hgd

end Go.Proofs.YtpnikmkijedmbaaDoor
