import Derived.Test.YtmiongjabbpmkaaDoorZ5
namespace Go.Proofs.YtmiongjabbpmkaaDoor
open Go Go.Ax
set_option linter.unusedSectionVars false
variable [JW]
theorem fn_Put25 : FnOk Tryd.prog 62 Tryd.f62 := ⟨Tryd.func62, by kernel_rfl⟩
theorem fn_turned : FnOk Tryd.prog 72 Tryd.f72 := ⟨Tryd.func72, by kernel_rfl⟩
theorem fn_CloneB : FnOk Tryd.prog 63 Tryd.f63 := ⟨Tryd.func63, by kernel_rfl⟩
theorem fn_Reverse : FnOk Tryd.prog 84 Tryd.f84 := ⟨Tryd.func84, by kernel_rfl⟩
theorem fn_LBytes : FnOk Tryd.prog 46 Tryd.f46 := ⟨Tryd.func46, by kernel_rfl⟩
theorem fn_LOf : FnOk Tryd.prog 48 Tryd.f48 := ⟨Tryd.func48, by kernel_rfl⟩
theorem fn_Lit64 : FnOk Tryd.prog 64 Tryd.f64 := ⟨Tryd.func64, by kernel_rfl⟩
noncomputable def fnsT : List (Nat × Func) := [(63, Tryd.f63), (83, Tryd.f83), (95, Tryd.f95), (84, Tryd.f84)]
theorem fnsT_ok : ∀ p ∈ fnsT, FnOk Tryd.prog p.1 p.2 := memc fn_CloneB (memc fn_Chunk (memc fn_Chunk1 (mem1 fn_Reverse)))
noncomputable abbrev cTu : Cfg := cfgG true 2 (List.range 40) fnsT [] [] [] [(0, 1, [8])] []
def turnL (L : List Int) : List Int := (List.range 25).flatMap fun i => (List.range 8).map fun j => L.getD (8 * i + (7 - j)) 0
set_option maxRecDepth 20000 in
theorem run_turned (f : Nat → Int) (x : Int) : (callA cTu true 3000 Tryd.f72 [.one (.slr 0 1 0 200), .one (.si .i64 x)] (memX gdM [.rseq .u8 (tab 200 f) 1, .gone, .gone, .gone])).view = .br (decide (x = 8)) (.leaf (.p (.c (.s 5 .u8 (turnL (tab 200 f))))) [200] [6]) (.bad 30) := by kernel_rfl
theorem run_turned' {L : List Int} {n : Nat} {f : Nat → Int} (x : Int) (hL : L = tab 200 f) (hn : n = 200) : (callA cTu true 3000 Tryd.f72 [.one (.slr 0 1 0 n), .one (.si .i64 x)] (memX gdM [.rseq .u8 L 1, .gone, .gone, .gone])).view = .br (decide (x = 8)) (.leaf (.p (.c (.s 5 .u8 (turnL L)))) [200] [6]) (.bad 30) := by
  subst hL hn; exact run_turned f x
set_option maxRecDepth 20000 in
theorem turnL_len {L : List Int} : (turnL L).length = 200 := rfl
def T_turn : List (List Int) → RT := fun l => .one (.p (.c (.s 5 .u8 (turnL (l.getD 0 [])))))
noncomputable def q_turned := (72, fsum [.one (.s .u8), .one (.w .i64)] (fun l => [(l.getD 0 []).length = 200, one l 1 = 8]) T_turn)
theorem qs_turned : FOk cM q_turned.1 q_turned.2 :=
  upM (fok_view (C := cTu) (shs := [.one (.s .u8), .one (.w .i64)]) (T := T_turn) (conds := fun l => [(l.getD 0 []).length = 200, one l 1 = 8]) (cokA JW.hJ fnsT_ok mem0 mem0 mem0 mem0) rfl rfl fn_turned (by kernel_rfl) 3000 fun Ms _ hp =>
    ⟨_, run_turned' ((Ms 1).getD 0 0) (tab_self hp.1).symm hp.1, fun _ => met_s turnL_len.symm, fun h => absurd hp.2.1 (of_decide_eq_false h)⟩)
noncomputable def fnsB : List (Nat × Func) := [(62, Tryd.f62), (73, Tryd.f73)]
noncomputable abbrev cLB : Cfg := cfgG true 2 (List.range 40) fnsB [] [q_turned] [] [] []
def le8 (x : Int) : List Int := (List.range 8).map (byteAt x)
def leL (L : List Int) : List Int := L.flatMap le8
set_option maxRecDepth 20000 in
theorem run_LBytes (f : Nat → Int) : (callA cLB true 3000 Tryd.f46 [.agg ((tab 25 f).map (.si .u64))] (memX gdM [.gone, .gone])).view = .leaf (.p (.c (.s 5 .u8 (leL (tab 25 f))))) [200] [605] := by kernel_rfl
theorem leL_len : ∀ {L : List Int}, (leL L).length = 8 * L.length
  | [] => rfl
  | x :: L => by
    have := leL_len (L := L)
    simp only [leL, List.flatMap_cons, List.length_append, List.length_cons] at this ⊢
    rw [this]
    simp [le8]; omega
def T_LBytes : List (List Int) → RT := fun l => .one (.p (.c (.s 5 .u8 (leL (l.getD 0 [])))))
noncomputable def q_LBytes := (46, fsum [.one (.l .u64 25)] (fun _ => []) T_LBytes)
theorem qs_LBytes : FOk cM q_LBytes.1 q_LBytes.2 :=
  upM (fok_view (C := cLB) (shs := [.one (.l .u64 25)]) (T := T_LBytes) (conds := fun _ => []) (cokA JW.hJ (memc fn_Put25 (mem1 fn_putN)) mem0 (mem1 qs_turned) mem0 mem0) rfl rfl fn_LBytes (by kernel_rfl) 3000 fun Ms hok _ =>
    ⟨_, run_LBytes fun i => (Ms 0).getD i 0, by
      have hl : (Ms 0).length = 25 := hok.1.1
      rw [tab_self hl]
      have h : 200 = (leL (Ms 0)).length := by rw [leL_len, hl]
      exact met_s h⟩)
noncomputable def fnsO : List (Nat × Func) := [(74, Tryd.f74), (83, Tryd.f83), (95, Tryd.f95)]
noncomputable abbrev cLO : Cfg := cfgG true 2 (List.range 40) fnsO [] [q_turned] [] [] []
def leAt (L : List Int) (o : Nat) : Int := (List.range 8).foldl (fun x j => binI .or .u64 (binI .shl .u64 x 8) (IntKind.u64.wrap (L.getD (o + (7 - j)) 0))) 0
def ofL (L : List Int) : List Int := (List.range 25).map fun i => leAt L (8 * i)
set_option maxRecDepth 20000 in
theorem run_Lit64 (f : Nat → Int) : (callA cLO true 3000 Tryd.f64 [.one (.slr 0 1 0 200)] (memX gdM [.rseq .u8 (tab 200 f) 1, .gone])).view = .leaf (.p (.c (.s 36 .u64 (ofL (tab 200 f))))) [25] [83] := by kernel_rfl
theorem run_Lit64' {L : List Int} {n : Nat} {f : Nat → Int} (hL : L = tab 200 f) (hn : n = 200) : (callA cLO true 3000 Tryd.f64 [.one (.slr 0 1 0 n)] (memX gdM [.rseq .u8 L 1, .gone])).view = .leaf (.p (.c (.s 36 .u64 (ofL L)))) [25] [83] := by
  subst hL hn; exact run_Lit64 f
def T_Lit64 : List (List Int) → RT := fun l => .one (.p (.c (.s 36 .u64 (ofL (l.getD 0 [])))))
noncomputable def q_Lit64 := (64, fsum [.one (.s .u8)] (fun l => [(l.getD 0 []).length = 200]) T_Lit64)
theorem qs_Lit64 : FOk cM q_Lit64.1 q_Lit64.2 :=
  upM (fok_view (C := cLO) (shs := [.one (.s .u8)]) (T := T_Lit64) (conds := fun l => [(l.getD 0 []).length = 200]) (cokA JW.hJ (memc fn_words (memc fn_Chunk (mem1 fn_Chunk1))) mem0 (mem1 qs_turned) mem0 mem0) rfl rfl fn_Lit64 (by kernel_rfl) 3000 fun Ms _ hp =>
    ⟨_, run_Lit64' (tab_self hp.1).symm hp.1, met_s (by simp [ofL])⟩)
noncomputable abbrev cLOf : Cfg := cfgG true 2 (List.range 40) [] [] [q_Lit64] [] [] []
set_option maxRecDepth 20000 in
theorem run_LOf (f : Nat → Int) : (callA cLOf true 1000 Tryd.f48 [.one (.slr 0 1 0 200)] (memX gdM [.rseq .u8 (tab 200 f) 1, .gone])).view = .leaf (.t [.g ((ofL (tab 200 f)).map (.i .u64)), .c (.b true)]) (List.replicate 26 0) [] := by kernel_rfl
theorem run_LOf' {L : List Int} {n : Nat} {f : Nat → Int} (hL : L = tab 200 f) (hn : n = 200) : (callA cLOf true 1000 Tryd.f48 [.one (.slr 0 1 0 n)] (memX gdM [.rseq .u8 L 1, .gone])).view = .leaf (.t [.g ((ofL L).map (.i .u64)), .c (.b true)]) (List.replicate 26 0) [] := by
  subst hL hn; exact run_LOf f
theorem run_LOfN (n : Nat) (L : List Int) : (callA (cfgM [] [] [] [] []) true 1000 Tryd.f48 [.one (.slr 0 1 0 n)] (memX gdM [.rseq .u8 L 1, .gone])).view =
    .br (cmpI .neq (n : Int) 200) (.leaf (.t [.g (List.replicate 25 (.i .u64 0)), .c (.b false)]) (List.replicate 26 0) []) (.bad 7) := by kernel_rfl
def T_LOf (l : List (List Int)) : RT := .br (decide ((l.getD 0 []).length = 200)) (.one (.t [.g ((ofL (l.getD 0 [])).map (.i .u64)), .c (.b true)])) (.one (.t [.g (List.replicate 25 (.i .u64 0)), .c (.b false)]))
noncomputable def q_LOf := (48, fsum [.one (.s .u8)] (fun _ => []) T_LOf)
theorem met_t {c : Bool} {x : RS} {y : RT} {r : RS} {ns js : List Nat} (h : c = true) (hx : RS.met x r ns js) : RS.met (RT.br c (.one x) y).now r ns js := by subst h; exact hx
theorem met_f {c : Bool} {x : RT} {y : RS} {r : RS} {ns js : List Nat} (h : c = false) (hy : RS.met y r ns js) : RS.met (RT.br c x (.one y)).now r ns js := by subst h; exact hy
theorem lenOk_is {k : IntKind} : ∀ (L : List Int), All2 lenOk (L.map (RC.i k)) (List.replicate L.length 0)
  | [] => trivial
  | _ :: L => ⟨trivial, lenOk_is L⟩
theorem met_gb {k : IntKind} {L : List Int} {b : Bool} {n : Nat} (h : n = L.length + 1) : RS.met (.t [.g (L.map (.i k)), .c (.b b)]) (.t [.g (L.map (.i k)), .c (.b b)]) (List.replicate n 0) [] := by
  refine ⟨rfl, ?_, List.nodup_nil⟩
  subst h
  have e : (RS.t [.g (L.map (RC.i k)), .c (.b b)]).cells = L.map (RC.i k) ++ [.b b] := by simp [RS.cells, RP.cells]
  rw [e, show List.replicate (L.length + 1) 0 = List.replicate L.length 0 ++ [0] from List.replicate_succ' ..]
  exact (lenOk_is L).append ⟨trivial, trivial⟩
theorem qs_LOf : FOk cM q_LOf.1 q_LOf.2 :=
  FOk.cases (fun l => (l.getD 0 []).length = 200)
    (upM (fok_view (C := cLOf) (shs := [.one (.s .u8)]) (T := T_LOf) (conds := fun l => [(l.getD 0 []).length = 200]) (cokA JW.hJ mem0 mem0 (mem1 qs_Lit64) mem0 mem0) rfl rfl fn_LOf (by kernel_rfl) 1000 fun Ms _ hp =>
      ⟨_, run_LOf' (tab_self hp.1).symm hp.1, by
        have hl : (Ms 0).length = 200 := hp.1
        exact met_t (x := .t [.g ((ofL (Ms 0)).map (.i .u64)), .c (.b true)]) (decide_eq_true hl) (met_gb (by simp [ofL]))⟩))
    (upM (fok_view (C := cM) (shs := [.one (.s .u8)]) (T := T_LOf) (conds := fun l => [¬ (l.getD 0 []).length = 200]) (cokM mem0 mem0 mem0 mem0) rfl rfl fn_LOf (by kernel_rfl) 1000 fun Ms _ hp =>
      ⟨_, run_LOfN (Ms 0).length (Ms 0), by
        have hl : ¬ (Ms 0).length = 200 := hp.1
        refine ⟨fun _ => ?_, fun h => ?_⟩
        · exact met_f (y := .t [.g (List.replicate 25 (.i .u64 0)), .c (.b false)]) (decide_eq_false hl) (met_gb (L := List.replicate 25 0) rfl)
        · exfalso
          have h2 : ¬ (((Ms 0).length : Int) ≠ 200) := by simpa [cmpI] using h
          omega⟩))
end Go.Proofs.YtmiongjabbpmkaaDoor

