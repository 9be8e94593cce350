/- Layer 12: the law StepChi. -/
import Derived.Test.YtpnikmkijedmbaaDoorSa9
import Derived.Test.YtpnikmkijedmbaaDoorSa10
import Derived.Test.YtpnikmkijedmbaaDoorSa12
namespace Go.Proofs.YtpnikmkijedmbaaDoor
open Go Go.Ax

/-- Tests one behind the other, all of which have to hold. -/
def andTree (x : Bool) : List Bool → Out
  | [] => .done (.one (.sb x)) Mem.empty
  | c :: cs => .br c (andTree x cs) (.done (.one (.lb false)) Mem.empty)
theorem andTree_sat {x : Bool} (hx : x = true) : ∀ {cs : List Bool}, (∀ c ∈ cs, c = true) → (andTree x cs).sat fun v _ => v = .one (.sb true) ∨ v = .one (.lb true)
  | [], _ => .inl (by rw [hx])
  | c :: cs, h => ⟨fun _ => andTree_sat hx fun c hc => h c (List.mem_cons_of_mem _ hc), fun hc => by rw [h c (List.mem_cons_self ..)] at hc; cases hc⟩

theorem fn_StepChi : FnOk Tryd.prog 6 Tryd.f6 := ⟨Tryd.func6, by kernel_rfl⟩
theorem run_StepChi (f : Nat → Int) (r : Int) : callA (cfg [] [p_wakes12, p_Chi, p_Iota, p_Constant, p_RChi, p_RIota, p_RConstant]) false 3000 Tryd.f6 [L25 (tab 25 f), .one (.si .i64 r)] (memG gdA) =
    andTree (eqL (iotaL (iotaL (tab 25 f) r) r) (tab 25 f)) [eqL (chiL (tab 25 f)) (chiL (tab 25 f)), eqL (iotaL (tab 25 f) r) (iotaL (tab 25 f) r), cmpI .eql (rcI r) (rcI r)] := by kernel_rfl

theorem xo_twice {a c : Int} (ha : okI .u64 a) : xo (xo a c) c = a := by
  rw [xo_nb', bv_xo, BitVec.xor_assoc, BitVec.xor_self, BitVec.xor_zero, nb_bv ha]
theorem iota_twice {f : Nat → Int} (h0 : okI .u64 (f 0)) (r : Int) : iotaL (iotaL (tab 25 f) r) r = tab 25 f := by
  refine tab_congr fun i hi => ?_
  match i, hi with
  | 0, _ => show xo (nth (iotaL (tab 25 f) r) 0) (rcI r) = f 0; exact xo_twice h0
  | i + 1, hi => show nth (iotaL (tab 25 f) r) (i + 1) = f (i + 1); rw [iotaL, nth_tab hi]; show nth (tab 25 f) (i + 1) = _; exact nth_tab hi

theorem law_StepChi {W : World} {base : Nat} {args : Array Value} (hsz : Tryd.f6.params.toList.length = args.toList.length)
    (hval : ∀ (j : Nat) t v, Tryd.f6.params[j]? = some t → args[j]? = some v → Value.okWide Tryd.prog W .any base t v) (hgd : GD gdA W.heap.size W) :
    Calls Tryd.prog 6 args W fun e w' => e = .returned (.bool true) ∧ RowKit.Below W.heap.size W w' :=
  law_e (C := cfg [] [p_wakes12, p_Chi, p_Iota, p_Constant, p_RChi, p_RIota, p_RConstant]) (cok (by simp) (by simp [ps_wakes12, ps_Chi, ps_Iota, ps_Constant, ps_RChi, ps_RIota, ps_RConstant])) rfl rfl fn_StepChi (shs := [.l .u64 25, .w .i64]) (by kernel_rfl) 3000
    (fun fs => [L25 (tab 25 (fs 0)), .one (.si .i64 (fs 1 0))]) (fun _ => rfl) (fun fs h => ⟨_, run_StepChi (fs 0) (fs 1 0), andTree_sat (by
      rw [iota_twice (h.1.2 _ (List.mem_map.2 ⟨0, by simp [Sh.len], rfl⟩)), eqL_self]) fun c hc => by
        simp only [eqL_self, cmpI, List.mem_cons, List.not_mem_nil, or_false] at hc
        rcases hc with h | h | h <;> rw [h]
        exact beq_self_eq_true _⟩) hsz hval hgd

end Go.Proofs.YtpnikmkijedmbaaDoor
