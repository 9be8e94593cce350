import Derived.Test.YtmiongjabbpmkaaDoorZ15
namespace Go.Proofs.YtmiongjabbpmkaaDoor
open Go Go.Ax
set_option linter.unusedSectionVars false
variable [JN]
theorem ps_wakes15 : PSOk cD p_wakes15.1 p_wakes15.2 :=
  upPP (psok_e (C := cWk Fn Xn On) (cokP mixedM JN.hN fnsSp_ok (mem1 ps_FV) (memc (upD qs_LXor) (mem1 (upD qs_LOut))) mem0 mem0) rfl rfl fn_wakes15 (by kernel_rfl) 1000 (fun _ => []) (fun _ => rfl) fun fs _ _ => ⟨_, run_wakes15 Fn Xn On, by
    have h := wakes_ex
    rw [Bool.and_eq_true] at h
    rw [h.1, h.2]
    exact ⟨fun _ => sat_sym rfl rfl, fun h => by cases h⟩⟩)
end Go.Proofs.YtmiongjabbpmkaaDoor

