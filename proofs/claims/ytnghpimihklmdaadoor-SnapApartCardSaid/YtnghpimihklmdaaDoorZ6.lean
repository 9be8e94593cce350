import Derived.Test.YtnghpimihklmdaaDoorZ5
namespace Go.Proofs.YtnghpimihklmdaaDoor
open Go Go.Ax
set_option linter.unusedSectionVars false
variable [JW]
theorem fn_Put25 : FnOk Tryd.prog 92 Tryd.f92 := ⟨Tryd.func92, by kernel_rfl⟩
theorem fn_turned : FnOk Tryd.prog 114 Tryd.f114 := ⟨Tryd.func114, by kernel_rfl⟩
theorem fn_CloneB : FnOk Tryd.prog 107 Tryd.f107 := ⟨Tryd.func107, by kernel_rfl⟩
theorem fn_Reverse : FnOk Tryd.prog 132 Tryd.f132 := ⟨Tryd.func132, by kernel_rfl⟩
theorem fn_LBytes : FnOk Tryd.prog 59 Tryd.f59 := ⟨Tryd.func59, by kernel_rfl⟩
noncomputable def fnsT : List (Nat × Func) := [(107, Tryd.f107), (131, Tryd.f131), (147, Tryd.f147), (132, Tryd.f132)]
theorem fnsT_ok : ∀ p ∈ fnsT, FnOk Tryd.prog p.1 p.2 := memc fn_CloneB (memc fn_Chunk (memc fn_Chunk1 (mem1 fn_Reverse)))
noncomputable abbrev cTu : Cfg := cfgG true 2 (List.range 40) fnsT [] [] [] [(0, 1, [8])] []
def turnL (L : List Int) : List Int := (List.range 25).flatMap fun i => (List.range 8).map fun j => L.getD (8 * i + (7 - j)) 0
set_option maxRecDepth 20000 in
theorem run_turned (f : Nat → Int) (x : Int) : (callA cTu true 3000 Tryd.f114 [.one (.slr 0 1 0 200), .one (.si .i64 x)] (memX gdM [.rseq .u8 (tab 200 f) 1, .gone, .gone, .gone])).view = .br (decide (x = 8)) (.leaf (.p (.c (.s 5 .u8 (turnL (tab 200 f))))) [200] [6]) (.bad 30) := by kernel_rfl
theorem run_turned' {L : List Int} {n : Nat} {f : Nat → Int} (x : Int) (hL : L = tab 200 f) (hn : n = 200) : (callA cTu true 3000 Tryd.f114 [.one (.slr 0 1 0 n), .one (.si .i64 x)] (memX gdM [.rseq .u8 L 1, .gone, .gone, .gone])).view = .br (decide (x = 8)) (.leaf (.p (.c (.s 5 .u8 (turnL L)))) [200] [6]) (.bad 30) := by
  subst hL hn; exact run_turned f x
set_option maxRecDepth 20000 in
theorem turnL_len {L : List Int} : (turnL L).length = 200 := rfl
def T_turn : List (List Int) → RT := fun l => .one (.p (.c (.s 5 .u8 (turnL (l.getD 0 [])))))
noncomputable def q_turned := (114, fsum [.one (.s .u8), .one (.w .i64)] (fun l => [(l.getD 0 []).length = 200, one l 1 = 8]) T_turn)
theorem qs_turned : FOk cM q_turned.1 q_turned.2 :=
  upM (fok_view (C := cTu) (shs := [.one (.s .u8), .one (.w .i64)]) (T := T_turn) (conds := fun l => [(l.getD 0 []).length = 200, one l 1 = 8]) (cokA JW.hJ fnsT_ok mem0 mem0 mem0 mem0) rfl rfl fn_turned (by kernel_rfl) 3000 fun Ms _ hp =>
    ⟨_, run_turned' ((Ms 1).getD 0 0) (tab_self hp.1).symm hp.1, fun _ => met_s turnL_len.symm, fun h => absurd hp.2.1 (of_decide_eq_false h)⟩)
noncomputable def fnsB : List (Nat × Func) := [(92, Tryd.f92), (115, Tryd.f115)]
noncomputable abbrev cLB : Cfg := cfgG true 2 (List.range 40) fnsB [] [q_turned] [] [] []
def le8 (x : Int) : List Int := (List.range 8).map (byteAt x)
def leL (L : List Int) : List Int := L.flatMap le8
set_option maxRecDepth 20000 in
theorem run_LBytes (f : Nat → Int) : (callA cLB true 3000 Tryd.f59 [.agg ((tab 25 f).map (.si .u64))] (memX gdM [.gone, .gone])).view = .leaf (.p (.c (.s 5 .u8 (leL (tab 25 f))))) [200] [605] := by kernel_rfl
theorem leL_len : ∀ {L : List Int}, (leL L).length = 8 * L.length
  | [] => rfl
  | x :: L => by
    have := leL_len (L := L)
    simp only [leL, List.flatMap_cons, List.length_append, List.length_cons] at this ⊢
    rw [this]
    simp [le8]; omega
def T_LBytes : List (List Int) → RT := fun l => .one (.p (.c (.s 5 .u8 (leL (l.getD 0 [])))))
noncomputable def q_LBytes := (59, fsum [.one (.l .u64 25)] (fun _ => []) T_LBytes)
theorem qs_LBytes : FOk cM q_LBytes.1 q_LBytes.2 :=
  upM (fok_view (C := cLB) (shs := [.one (.l .u64 25)]) (T := T_LBytes) (conds := fun _ => []) (cokA JW.hJ (memc fn_Put25 (mem1 fn_putN)) mem0 (mem1 qs_turned) mem0 mem0) rfl rfl fn_LBytes (by kernel_rfl) 3000 fun Ms hok _ =>
    ⟨_, run_LBytes fun i => (Ms 0).getD i 0, by
      have hl : (Ms 0).length = 25 := hok.1.1
      rw [tab_self hl]
      have h : 200 = (leL (Ms 0)).length := by rw [leL_len, hl]
      exact met_s h⟩)
end Go.Proofs.YtnghpimihklmdaaDoor

