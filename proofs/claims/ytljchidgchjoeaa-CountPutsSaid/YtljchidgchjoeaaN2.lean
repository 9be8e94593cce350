/- Package count: a count's bytes, and the count of bytes. -/
import Derived.Test.YtljchidgchjoeaaN1
namespace Go.Proofs.Ytljchidgchjoeaa
open Go Go.Ax
set_option linter.unusedSectionVars false
variable [JW]

/-! ## Put -/

theorem fn_put : FnOk Try.prog 48 Try.f48 := ⟨Try.func48, by kernel_rfl⟩
theorem fn_PutBig : FnOk Try.prog 41 Try.f41 := ⟨Try.func41, by kernel_rfl⟩
theorem fn_CPut : FnOk Try.prog 18 Try.f18 := ⟨Try.func18, by kernel_rfl⟩
noncomputable def cPut : Cfg := cfgM [(48, Try.f48), (41, Try.f41)] [] [] [] []
def byteAt (x : Int) (i : Nat) : Int := IntKind.u8.wrap (binI .shr .u64 x (binI .mul .i64 8 (i : Int)))
def put16 (h l : Int) : List Int := (List.range 16).map fun j => match Nat.blt j 8 with | true => byteAt h (7 - j) | false => byteAt l (15 - j)
theorem run_CPut (h l : Int) : (callA cPut true 1000 Try.f18 [.agg [.si .u64 h, .si .u64 l]] (memX gdM [.gone, .gone])).view =
    .need ((0 : Int) ≤ 0) (.need ((0 : Int) ≤ 16) (.need (((1 : Nat) : Int) * 16 ≤ 140737488355328) (.need ((16 : Int) ≤ 9223372036854775807) (appAll (put16 h l) 0 [] fun n L => .leaf (.p (.c (.s 5 .u8 L))) [n] [52])))) := by kernel_rfl
def T_Put : List (List Int) → RT := fun l => .one (.p (.c (.s 5 .u8 (put16 (at2 l 0 0) (at2 l 0 1)))))
def q_Put := (18, fsum [.one (.l .u64 2)] (fun _ => []) T_Put)
theorem cokPut : COk cPut := cokM (memc fn_put (mem1 fn_PutBig)) mem0 mem0 mem0
theorem qs_Put : FOk cM q_Put.1 q_Put.2 :=
  upM (fok_run (C := cPut) (shs := [.one (.l .u64 2)]) (T := T_Put) (conds := fun _ => []) cokPut rfl rfl fn_CPut rfl 1000 fun Ms _ _ =>
    ⟨_, rfl, view_sat (by
      have hr := run_CPut ((Ms 0).getD 0 0) ((Ms 0).getD 1 0)
      show R2.sat _ (callA cPut true 1000 Try.f18 [.agg [.si .u64 ((Ms 0).getD 0 0), .si .u64 ((Ms 0).getD 1 0)]] (memX gdM [.gone, .gone])).view
      rw [hr]
      exact ⟨by decide, by decide, by decide, by decide, appAll_sat _ 0 [] rfl (by simp [put16]) ⟨rfl, ⟨rfl, trivial⟩, by simp⟩⟩)⟩)

/-! ## Get -/

theorem fn_words : FnOk Try.prog 49 Try.f49 := ⟨Try.func49, by kernel_rfl⟩
theorem fn_Big64 : FnOk Try.prog 42 Try.f42 := ⟨Try.func42, by kernel_rfl⟩
theorem fn_Chunk : FnOk Try.prog 46 Try.f46 := ⟨Try.func46, by kernel_rfl⟩
theorem fn_Chunk1 : FnOk Try.prog 51 Try.f51 := ⟨Try.func51, by kernel_rfl⟩
theorem fn_CGet : FnOk Try.prog 19 Try.f19 := ⟨Try.func19, by kernel_rfl⟩
noncomputable def fnsW : List (Nat × Func) := [(49, Try.f49), (42, Try.f42), (46, Try.f46), (51, Try.f51)]
theorem fnsW_ok : ∀ p ∈ fnsW, FnOk Try.prog p.1 p.2 := memc fn_words (memc fn_Big64 (memc fn_Chunk (mem1 fn_Chunk1)))
noncomputable abbrev cGet : Cfg := cfgL fnsW [] []
/-- Eight bytes' word, the great end first, as it is put together. -/
def wordAt (L : List Int) (o : Nat) : Int := (List.range 8).foldl (fun x j => binI .or .u64 (binI .shl .u64 x 8) (IntKind.u64.wrap (L.getD (o + j) 0))) 0
def cdsGet : List Cd := [.le 0 0, .le 0 16, .le 16 16, .le 0 0, .le 0 8, .le 8 8, .le 8 16, .le 0 0, .lt 0 8, .le 0 0, .lt 0 16, .le 0 1, .lt 1 8, .le 0 1, .lt 1 16, .le 0 2, .lt 2 8, .le 0 2, .lt 2 16, .le 0 3, .lt 3 8, .le 0 3, .lt 3 16, .le 0 4, .lt 4 8, .le 0 4, .lt 4 16, .le 0 5, .lt 5 8, .le 0 5, .lt 5 16, .le 0 6, .lt 6 8, .le 0 6, .lt 6 16, .le 0 7, .lt 7 8, .le 0 7, .lt 7 16, .nlt 0 1, .and (.nle 1 140737488355328) (.nle 8 140737488355328), .le 0 8, .le 8 16, .le 16 16, .le 0 8, .le 8 16, .le 16 16, .le 16 16, .le 0 0, .lt 0 8, .le 0 8, .lt 8 16, .le 0 1, .lt 1 8, .le 0 9, .lt 9 16, .le 0 2, .lt 2 8, .le 0 10, .lt 10 16, .le 0 3, .lt 3 8, .le 0 11, .lt 11 16, .le 0 4, .lt 4 8, .le 0 12, .lt 12 16, .le 0 5, .lt 5 8, .le 0 13, .lt 13 16, .le 0 6, .lt 6 8, .le 0 14, .lt 14 16, .le 0 7, .lt 7 8, .le 0 15, .lt 15 16, .eq 1 1, .tr, .and (.nle 2 140737488355328) (.nle 16 140737488355328), .le 0 0, .lt 0 2, .le 0 0, .lt 0 2, .le 0 1, .lt 1 2, .le 0 1, .lt 1 2]
set_option maxRecDepth 20000 in
theorem run_Get (f : Nat → Int) : (callA cGet true 1000 Try.f19 [.one (.slr 0 1 0 16)] (memX gdM [.rseq .u8 (tab 16 f) 1, .gone])).view =
    needC cdsGet (.leaf (.t [.g [.i .u64 (wordAt (tab 16 f) 0), .i .u64 (wordAt (tab 16 f) 8)], .c (.b true)]) [0, 0, 0] []) := by kernel_rfl
noncomputable abbrev cGetN : Cfg := cfgM [] [] [] [] []
theorem run_GetN (n : Nat) (L : List Int) : (callA cGetN true 1000 Try.f19 [.one (.slr 0 1 0 n)] (memX gdM [.rseq .u8 L 1, .gone])).view =
    .br (cmpI .neq (n : Int) 16) (.leaf (.t [.g [.i .u64 0, .i .u64 0], .c (.b false)]) [0, 0, 0] []) (.bad 15) := by kernel_rfl
def T_Get (l : List (List Int)) : RT := .br (decide ((l.getD 0 []).length = 16)) (.one (.t [.g [.i .u64 (wordAt (l.getD 0 []) 0), .i .u64 (wordAt (l.getD 0 []) 8)], .c (.b true)])) (.one (.t [.g [.i .u64 0, .i .u64 0], .c (.b false)]))
def q_Get := (19, fsum [.one (.s .u8)] (fun _ => []) T_Get)
/-- A summary by cases. -/
theorem FOk.cases {C : Cfg} {g : Nat} {shs : List SH} (c : List (List Int) → Prop) {conds : List (List Int) → List Prop} {T : List (List Int) → RT} (h1 : FOk C g (fsum shs (fun l => c l :: conds l) T)) (h2 : FOk C g (fsum shs (fun l => (¬ c l) :: conds l) T)) : FOk C g (fsum shs conds T) := by
  obtain ⟨h0, h1⟩ := h1
  obtain ⟨_, h2⟩ := h2
  refine ⟨h0, fun args mem r cs hF hp B w0 w env vals hm ha => ?_⟩
  unfold fsum at hF
  split at hF
  · rename_i fl hop
    split at hF
    · rename_i ps ess hpa
      cases hF
      rw [allP_iff] at hp
      by_cases hc : c ess
      · exact h1 args mem (T ess) (ps ++ c ess :: conds ess) (by unfold fsum; rw [hop]; simp only [hpa]) ((allP_iff).2 ⟨hp.1, hc, hp.2⟩) B w0 w env vals hm ha
      · exact h2 args mem (T ess) (ps ++ (¬ c ess) :: conds ess) (by unfold fsum; rw [hop]; simp only [hpa]) ((allP_iff).2 ⟨hp.1, hc, hp.2⟩) B w0 w env vals hm ha
    · cases hF
  · cases hF
theorem qs_Get : FOk cM q_Get.1 q_Get.2 :=
  FOk.cases (fun l => (l.getD 0 []).length = 16)
    (upM (fok_run (C := cGet) (shs := [.one (.s .u8)]) (T := T_Get) (conds := fun l => [(l.getD 0 []).length = 16]) (cokL fnsW_ok mem0 mem0) rfl rfl fn_CGet rfl 1000 fun Ms _ hp => by
      have hl : (Ms 0).length = 16 := hp.1
      have hM : tab 16 (fun i => (Ms 0).getD i 0) = Ms 0 := tab_self hl
      refine ⟨_, rfl, view_sat ?_⟩
      show R2.sat _ (callA cGet true 1000 Try.f19 [.one (.slr 0 1 0 (Ms 0).length)] (memX gdM [.rseq .u8 (Ms 0) 1, .gone])).view
      have hr := run_Get (fun i => (Ms 0).getD i 0)
      rw [hM] at hr
      rw [hl, hr]
      refine needC_sat (by kernel_rfl) ?_
      show RS.met (T_Get [Ms 0]).now _ _ _
      have : (T_Get [Ms 0]).now = .t [.g [.i .u64 (wordAt (Ms 0) 0), .i .u64 (wordAt (Ms 0) 8)], .c (.b true)] := by
        show RT.now (.br (decide ((Ms 0).length = 16)) _ _) = _
        rw [decide_eq_true hl]; rfl
      rw [this]
      exact ⟨rfl, ⟨trivial, trivial, trivial, trivial⟩, List.nodup_nil⟩))
    (upM (fok_run (C := cGetN) (shs := [.one (.s .u8)]) (T := T_Get) (conds := fun l => [¬ (l.getD 0 []).length = 16]) (cokM mem0 mem0 mem0 mem0) rfl rfl fn_CGet rfl 1000 fun Ms _ hp => by
      have hl : ¬ (Ms 0).length = 16 := hp.1
      refine ⟨_, rfl, view_sat ?_⟩
      show R2.sat _ (callA cGetN true 1000 Try.f19 [.one (.slr 0 1 0 (Ms 0).length)] (memX gdM [.rseq .u8 (Ms 0) 1, .gone])).view
      rw [run_GetN]
      have : (T_Get [Ms 0]).now = .t [.g [.i .u64 0, .i .u64 0], .c (.b false)] := by
        show RT.now (.br (decide ((Ms 0).length = 16)) _ _) = _
        rw [decide_eq_false hl]; rfl
      refine ⟨fun _ => ?_, fun h => ?_⟩
      · show RS.met (T_Get [Ms 0]).now _ _ _
        rw [this]
        exact ⟨rfl, ⟨trivial, trivial, trivial, trivial⟩, List.nodup_nil⟩
      · exfalso
        have h2 : ¬ (((Ms 0).length : Int) ≠ 16) := by simpa [cmpI] using h
        omega))
end Go.Proofs.Ytljchidgchjoeaa
