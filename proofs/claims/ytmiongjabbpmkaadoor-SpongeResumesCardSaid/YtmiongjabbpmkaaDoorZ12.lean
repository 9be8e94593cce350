import Derived.Test.YtmiongjabbpmkaaDoorZ11
namespace Go.Proofs.YtmiongjabbpmkaaDoor
open Go Go.Ax
set_option linter.unusedSectionVars false
variable [JW]
noncomputable abbrev cD : Cfg := cP0 Tryd.prog JW.J gdA
theorem upD {g : Nat} {F : List AV → Mem → Option (List Cnd × RT)} (h : FOk cM g F) : FOk cD g F := h.widen rfl fun _ h => by cases h
theorem upDP {g : Nat} {F : List AV → Mem → Option (List Cnd × AV)} (h : PSOk cM g F) : PSOk cD g F := h.widen rfl fun _ h => by cases h
def pFV (F : List Int → Nat → Int) := (49, gsum [.l .u64 25] (fun _ => []) fun l => .p (.l .u64 (tab 25 (F (row0 l)))))
def cLX3 (l : List (List Int)) : List Cnd := [0 ≤ one l 1, 1 ≤ (l.getD 2 []).length, one l 1 + ((l.getD 2 []).length : Int) ≤ 200]
def cLO3 (l : List (List Int)) : List Cnd := [0 ≤ one l 1, 1 ≤ one l 2, one l 1 + one l 2 ≤ 200]
def qLXorV (X : List (List Int) → Nat → Int) := (29, fsum [.one (.l .u64 25), .one (.w .i64), .one (.s .u8)] cLX3 fun l => .one (.p (.g ((tab 25 (X l)).map (.i .u64)))))
def qLOutV (O : List (List Int) → Nat → Int) := (33, fsum [.one (.l .u64 25), .one (.w .i64), .one (.w .i64)] cLO3 fun l => .one (.p (.c (.s 5 .u8 (tab (one l 2).toNat (O l))))))
noncomputable def fnsSp : List (Nat × Func) := [(8, Tryd.f8), (14, Tryd.f14), (19, Tryd.f19), (20, Tryd.f20), (10, Tryd.f10), (21, Tryd.f21), (32, Tryd.f32), (30, Tryd.f30), (31, Tryd.f31), (37, Tryd.f37), (54, Tryd.f54)]
noncomputable abbrev cWk (F : List Int → Nat → Int) (X O : List (List Int) → Nat → Int) : Cfg := cfgP Tryd.prog JW.J gdA true 1 (List.range 40) fnsSp [pFV F] [qLXorV X, qLOutV O] [] [] []
def wkA (F : List Int → Nat → Int) (X : List (List Int) → Nat → Int) : List Int := tab 25 (F (tab 25 (X [tab 25 (X [List.replicate 25 0, [0], [6]]), [135], [128]])))
theorem run_wakes15 (F : List Int → Nat → Int) (X O : List (List Int) → Nat → Int) : callA (cWk F X O) false 1000 Tryd.f7 [] (memG gdA) =
    .br (cmpI .eql (O [wkA F X, [0], [32]] 0) 167) (.done (.one (.sb (cmpI .eql (O [wkA F X, [0], [32]] 1) 255))) Mem.empty) (.done (.one (.lb false)) Mem.empty) := by kernel_rfl
def Fn (A : List Int) (i : Nat) : Int := nth (roundsN A 0 24) i
theorem ps_FV : PSOk cD (pFV Fn).1 (pFV Fn).2 := by
  have h : (fun l : List (List Int) => GR.p (.l .u64 (tab 25 (Fn (row0 l))))) = T_F := by
    funext l; unfold Fn; rw [show tab 25 (nth (roundsN (row0 l) 0 24)) = roundsN (row0 l) 0 24 from tab_self (by simp [roundsN, tab])]; rfl
  unfold pFV; rw [h]; exact ps_F
theorem wakes_ex : (cmpI .eql (On [wkA Fn Xn, [0], [32]] 0) 167 && cmpI .eql (On [wkA Fn Xn, [0], [32]] 1) 255) = true := by kernel_rfl
def p_wakes15 := (7, gsum [] (fun _ => []) fun _ => .p (.b true))
theorem fnsSp_ok : ∀ p ∈ fnsSp, FnOk Tryd.prog p.1 p.2 := memc ⟨Tryd.func8, by kernel_rfl⟩ (memc ⟨Tryd.func14, by kernel_rfl⟩ (memc ⟨Tryd.func19, by kernel_rfl⟩ (memc ⟨Tryd.func20, by kernel_rfl⟩ (memc ⟨Tryd.func10, by kernel_rfl⟩ (memc ⟨Tryd.func21, by kernel_rfl⟩ (memc ⟨Tryd.func32, by kernel_rfl⟩ (memc ⟨Tryd.func30, by kernel_rfl⟩ (memc ⟨Tryd.func31, by kernel_rfl⟩ (memc ⟨Tryd.func37, by kernel_rfl⟩ (mem1 ⟨Tryd.func54, by kernel_rfl⟩))))))))))
theorem fn_wakes15 : FnOk Tryd.prog 7 Tryd.f7 := ⟨Tryd.func7, by kernel_rfl⟩
end Go.Proofs.YtmiongjabbpmkaaDoor

