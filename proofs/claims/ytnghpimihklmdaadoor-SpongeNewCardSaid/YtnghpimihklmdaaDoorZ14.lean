/- The law SpongeNew. -/
import Derived.Test.YtnghpimihklmdaaDoorZ13
namespace Go.Proofs.YtnghpimihklmdaaDoor
open Go Go.Ax
set_option linter.unusedSectionVars false
variable [JN]

theorem ps_wakes15 : PSOk cD p_wakes15.1 p_wakes15.2 :=
  upPP (psok_e (C := cWk Fn Xn On) (cokP mixedM JN.hN fnsSp_ok (mem1 ps_FV) (memc (upD qs_LXor) (mem1 (upD qs_LOut))) mem0 mem0) rfl rfl fn_wakes15 (by kernel_rfl) 1000 (fun _ => []) (fun _ => rfl) fun fs _ _ => ⟨_, run_wakes15 Fn Xn On, by
    have h := wakes_ex
    rw [Bool.and_eq_true] at h
    rw [h.1, h.2]
    exact ⟨fun _ => sat_sym rfl rfl, fun h => by cases h⟩⟩)

noncomputable def fnsNw : List (Nat × Func) := (19, Tryd.f19) :: (18, Tryd.f18) :: fnsSp
noncomputable abbrev cNw : Cfg := cfgP Tryd.prog JW.J gdA true 1 (List.range 40) fnsNw [p_wakes15, p_State] [] [] [] []
def SpongeNewT_0 (r : Int) (s : Int) : Out :=
  .br (cmpI .neq s (4 : Int)) (.br (cmpI .neq s (6 : Int)) (.br (cmpI .neq s (31 : Int)) (.done (.one (.lb true)) Mem.empty) (.br (cmpI .lss (0 : Int) r) (.done (.one (.lb false)) Mem.empty) (.br (cmpI .eql (0 : Int) r) (.done (.one (.lb true)) Mem.empty) (.done (.one (.lb true)) Mem.empty)))) (.br (cmpI .lss (0 : Int) r) (.done (.one (.lb false)) Mem.empty) (.br (cmpI .eql (0 : Int) r) (.done (.one (.lb true)) Mem.empty) (.done (.one (.lb true)) Mem.empty)))) (.br (cmpI .lss (0 : Int) r) (.done (.one (.lb false)) Mem.empty) (.br (cmpI .eql (0 : Int) r) (.done (.one (.lb true)) Mem.empty) (.done (.one (.lb true)) Mem.empty)))
def SpongeNewT_1 (r : Int) (s : Int) : Out :=
  .br (cmpI .neq r (72 : Int)) (.br (cmpI .neq r (104 : Int)) (.br (cmpI .neq r (136 : Int)) (.br (cmpI .neq r (144 : Int)) (.br (cmpI .neq r (168 : Int)) (.done (.one (.lb true)) Mem.empty) (SpongeNewT_0 r s)) (SpongeNewT_0 r s)) (SpongeNewT_0 r s)) (SpongeNewT_0 r s)) (SpongeNewT_0 r s)
def SpongeNewT_2 (r : Int) : Out :=
  .br (cmpI .lss (0 : Int) r) (.br ((0 : Int) == (0 : Int) && ((0 : Int) == (0 : Int) && ((0 : Int) == (0 : Int) && ((0 : Int) == (0 : Int) && ((0 : Int) == (0 : Int) && ((0 : Int) == (0 : Int) && ((0 : Int) == (0 : Int) && ((0 : Int) == (0 : Int) && ((0 : Int) == (0 : Int) && ((0 : Int) == (0 : Int) && ((0 : Int) == (0 : Int) && ((0 : Int) == (0 : Int) && ((0 : Int) == (0 : Int) && ((0 : Int) == (0 : Int) && ((0 : Int) == (0 : Int) && ((0 : Int) == (0 : Int) && ((0 : Int) == (0 : Int) && ((0 : Int) == (0 : Int) && ((0 : Int) == (0 : Int) && ((0 : Int) == (0 : Int) && ((0 : Int) == (0 : Int) && ((0 : Int) == (0 : Int) && ((0 : Int) == (0 : Int) && ((0 : Int) == (0 : Int) && ((0 : Int) == (0 : Int) && true))))))))))))))))))))))))) (.br (cmpI .eql (0 : Int) (0 : Int)) (.done (.one (.sb (false == false))) Mem.empty) (.done (.one (.lb false)) Mem.empty)) (.done (.one (.lb false)) Mem.empty)) (.br (cmpI .eql (0 : Int) r) (.done (.one (.lb false)) Mem.empty) (.done (.one (.lb false)) Mem.empty))
def SpongeNewT_3 (r : Int) (s : Int) : Out :=
  .br (cmpI .neq s (4 : Int)) (.br (cmpI .neq s (6 : Int)) (.br (cmpI .neq s (31 : Int)) (.done (.one (.lb false)) Mem.empty) (SpongeNewT_2 r)) (SpongeNewT_2 r)) (SpongeNewT_2 r)
def SpongeNewT_4 (r : Int) (s : Int) : Out :=
  .br (cmpI .gtr (0 : Int) r) (SpongeNewT_1 r s) (.br (cmpI .eql (0 : Int) r) (SpongeNewT_1 r s) (.br (cmpI .neq r (72 : Int)) (.br (cmpI .neq r (104 : Int)) (.br (cmpI .neq r (136 : Int)) (.br (cmpI .neq r (144 : Int)) (.br (cmpI .neq r (168 : Int)) (.done (.one (.lb false)) Mem.empty) (SpongeNewT_3 r s)) (SpongeNewT_3 r s)) (SpongeNewT_3 r s)) (SpongeNewT_3 r s)) (SpongeNewT_3 r s)))
def SpongeNewT_5 (r : Int) (s : Int) : Out :=
  .br (cmpI .eql s (4 : Int)) (SpongeNewT_4 r s) (.br (cmpI .eql s (6 : Int)) (SpongeNewT_4 r s) (.br (cmpI .eql s (31 : Int)) (SpongeNewT_4 r s) (SpongeNewT_1 r s)))
theorem run_SpongeNew (r s : Int) : callA cNw false 1000 Tryd.f4 [.one (.si .i64 r), .one (.si .i64 s)] (memG gdA) =
    .br (cmpI .eql r (72 : Int)) (SpongeNewT_5 r s) (.br (cmpI .eql r (104 : Int)) (SpongeNewT_5 r s) (.br (cmpI .eql r (136 : Int)) (SpongeNewT_5 r s) (.br (cmpI .eql r (144 : Int)) (SpongeNewT_5 r s) (.br (cmpI .eql r (168 : Int)) (SpongeNewT_5 r s) (SpongeNewT_1 r s))))) := by kernel_rfl
def okO : Out → Bool
  | .br c t f => match c with
    | true => okO t
    | false => okO f
  | .done (.one (.lb b)) _ => b
  | .done (.one (.sb b)) _ => b
  | _ => false
theorem okO_sat : ∀ {o : Out}, okO o = true → o.sat fun v _ => v = .one (.sb true) ∨ v = .one (.lb true)
  | .br true t f, h => ⟨fun _ => okO_sat (o := t) h, fun h => by cases h⟩
  | .br false t f, h => ⟨fun h => (by cases h), fun _ => okO_sat (o := f) h⟩
  | .done (.one (.lb b)) _, h => .inr (by cases b; cases h; rfl)
  | .done (.one (.sb b)) _, h => .inl (by cases b; cases h; rfl)
theorem sn_ok (r s : Int) : okO (.br (cmpI .eql r (72 : Int)) (SpongeNewT_5 r s) (.br (cmpI .eql r (104 : Int)) (SpongeNewT_5 r s) (.br (cmpI .eql r (136 : Int)) (SpongeNewT_5 r s) (.br (cmpI .eql r (144 : Int)) (SpongeNewT_5 r s) (.br (cmpI .eql r (168 : Int)) (SpongeNewT_5 r s) (SpongeNewT_1 r s)))))) = true := by
  by_cases h1 : r = 72 <;> by_cases h2 : r = 104 <;> by_cases h3 : r = 136 <;> by_cases h4 : r = 144 <;> by_cases h5 : r = 168 <;> first
    | omega
    | (by_cases g1 : s = 4 <;> by_cases g2 : s = 6 <;> by_cases g3 : s = 31 <;> first
        | omega
        | (simp [okO, SpongeNewT_0, SpongeNewT_1, SpongeNewT_2, SpongeNewT_3, SpongeNewT_4, SpongeNewT_5, cmpI, *]; done)
        | (simp [okO, SpongeNewT_0, SpongeNewT_1, SpongeNewT_2, SpongeNewT_3, SpongeNewT_4, SpongeNewT_5, cmpI, bne, beq_false_of_ne g1, beq_false_of_ne g2, beq_false_of_ne g3, *]; done)
        | (simp [okO, SpongeNewT_0, SpongeNewT_1, SpongeNewT_2, SpongeNewT_3, SpongeNewT_4, SpongeNewT_5, cmpI, bne, beq_false_of_ne h1, beq_false_of_ne h2, beq_false_of_ne h3, beq_false_of_ne h4, beq_false_of_ne h5, *]; done))
theorem fn_SpongeNew : FnOk Tryd.prog 4 Tryd.f4 := ⟨Tryd.func4, by kernel_rfl⟩
theorem fn_told : FnOk Tryd.prog 19 Tryd.f19 := ⟨Tryd.func19, by kernel_rfl⟩
theorem fn_R15Right : FnOk Tryd.prog 18 Tryd.f18 := ⟨Tryd.func18, by kernel_rfl⟩
theorem fnsNw_ok : ∀ p ∈ fnsNw, FnOk Tryd.prog p.1 p.2 := memc fn_told (memc fn_R15Right fnsSp_ok)
theorem psNw_ok : ∀ p ∈ [p_wakes15, p_State], PSOk cD p.1 p.2 := memc ps_wakes15 (mem1 (upDP ps_State))
theorem cokNw : COk cNw := cokP mixedM JN.hN fnsNw_ok psNw_ok mem0 mem0 mem0
theorem sn_run (r s : Int) : ∃ o, callA cNw false 1000 Tryd.f4 [.one (.si .i64 r), .one (.si .i64 s)] (memG gdA) = o ∧ o.sat fun v _ => v = .one (.sb true) ∨ v = .one (.lb true) := ⟨_, run_SpongeNew r s, okO_sat (sn_ok r s)⟩
theorem law_eP {P : Program} {J : Judg P} {gd : List (Nat × List SV)} {lit : Bool} {lv : Nat} {sg : List Nat} {fns : List (Nat × Func)} {ps : PSs} {fs : FSs} {lq : LQs} {sp : SPs} {ex : EXs} {al : List Nat} (hC : COk (cfgP P J gd lit lv sg fns ps fs lq sp ex al)) {g : Nat} {fn : Func} (hfn : FnOk P g fn) {shs : List Sh} (hsh : shsOf P fn.params.toList = some shs) (n : Nat)
    (args' : (Nat → Nat → Int) → List AV) (ha : ∀ fs, mkArgs shs (tabs shs 0 fs) = args' fs)
    (hrun : ∀ f : Nat → Nat → Int, okLs shs (tabs shs 0 f) → ∃ o, callA (cfgP P J gd lit lv sg fns ps fs lq sp ex al) false n fn (args' f) (memG gd) = o ∧ o.sat fun v _ => v = .one (.sb true) ∨ v = .one (.lb true))
    {W : World} {base : Nat} {args : Array Value} (hsz : fn.params.toList.length = args.toList.length) (hval : ∀ (j : Nat) t v, fn.params[j]? = some t → args[j]? = some v → Value.okWide P W .any base t v) (hgd : GD gd W.heap.size W) :
    CallsL J g args W fun e w' => e = .returned (.bool true) ∧ RowKit.Below W.heap.size W w' := law_e hC rfl rfl hfn hsh n args' ha hrun hsz hval hgd
theorem law_SpongeNewJ : ∀ {W : World} {base : Nat} {args : Array Value} (_ : Tryd.f4.params.toList.length = args.toList.length)
    (_ : ∀ (j : Nat) t v, Tryd.f4.params[j]? = some t → args[j]? = some v → Value.okWide Tryd.prog W .any base t v) (_ : GD gdA W.heap.size W),
    CallsL JW.J 4 args W fun e w' => e = .returned (.bool true) ∧ RowKit.Below W.heap.size W w' :=
  law_eP cokNw fn_SpongeNew (shs := [.w .i64, .w .i64]) (by kernel_rfl) 1000 (fun fs => [.one (.si .i64 (fs 0 0)), .one (.si .i64 (fs 1 0))]) (fun _ => rfl) (fun fs _ => sn_run (fs 0 0) (fs 1 0))
set_option maxRecDepth 100000 in
omit [JN] in
theorem law_SpongeNew {W : World} {base : Nat} {args : Array Value} (hsz : Tryd.f4.params.toList.length = args.toList.length)
    (hval : ∀ (j : Nat) t v, Tryd.f4.params[j]? = some t → args[j]? = some v → Value.okWide Tryd.prog W .any base t v) (hgd : GD gdA W.heap.size W) :
    CallsL (loneJ Tryd.prog) 4 args W fun e w' => e = .returned (.bool true) ∧ RowKit.Below W.heap.size W w' := by
  have h := @law_SpongeNewJ aloneN W base args hsz hval hgd
  exact h
end Go.Proofs.YtnghpimihklmdaaDoor

