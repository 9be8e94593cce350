/- Package custom and its reference: names; the configuration with the rates' table. -/
import Derived.Test.YtpaphgdbfbkihaaDoorK11
namespace Go.Proofs.YtpaphgdbfbkihaaDoor
open Go Go.Ax

abbrev shN : SH := .grp [.s .u8, .s .u8]
def qNm (g : Nat) (T : List (List Int) → Bool) := (g, fsum [shN] (fun _ => []) fun l => .one (.p (.c (.b (T l)))))
def nmA (i n j m : Nat) : AV := .agg [.slr i (i + 1) 0 n, .slr j (j + 1) 0 m]
noncomputable def nmM (L M : List Int) : Mem := memX gdM [.rseq .u8 L 1, .gone, .rseq .u8 M 3, .gone]
noncomputable def fnsN : List (Nat × Func) := [(47, Tryd.f47), (48, Tryd.f48), (62, Tryd.f62)]
theorem fn_both : FnOk Tryd.prog 47 Tryd.f47 := ⟨Tryd.func47, by kernel_rfl⟩
theorem fn_Right1 : FnOk Tryd.prog 48 Tryd.f48 := ⟨Tryd.func48, by kernel_rfl⟩
theorem fn_empty1 : FnOk Tryd.prog 62 Tryd.f62 := ⟨Tryd.func62, by kernel_rfl⟩
theorem fn_URight : FnOk Tryd.prog 31 Tryd.f31 := ⟨Tryd.func31, by kernel_rfl⟩
theorem fn_Uempty : FnOk Tryd.prog 46 Tryd.f46 := ⟨Tryd.func46, by kernel_rfl⟩
theorem fn_VRight : FnOk Tryd.prog 30 Tryd.f30 := ⟨Tryd.func30, by kernel_rfl⟩
theorem fn_VEmpty : FnOk Tryd.prog 21 Tryd.f21 := ⟨Tryd.func21, by kernel_rfl⟩
theorem fn_long17 : FnOk Tryd.prog 27 Tryd.f27 := ⟨Tryd.func27, by kernel_rfl⟩
theorem cokN : COk (cfgM fnsN [] [] [] []) := cokM (memc fn_both (memc fn_Right1 (mem1 fn_empty1))) mem0 mem0 mem0

def leafB (b : Bool) : R2 := .leaf (.p (.c (.b b))) [0] []
theorem run_URight (n m : Nat) (L M : List Int) : (callA (cfgM fnsN [] [] [] []) true 1000 Tryd.f31 [nmA 0 n 2 m] (nmM L M)).view = .br (cmpI .leq (n : Int) 1000) (leafB (cmpI .leq (m : Int) 1000)) (leafB false) := by kernel_rfl
theorem run_VRight (n m : Nat) (L M : List Int) : (callA (cfgM fnsN [] [] [] []) true 1000 Tryd.f30 [nmA 0 n 2 m] (nmM L M)).view = .br (cmpI .leq (n : Int) 1000) (leafB (cmpI .leq (m : Int) 1000)) (leafB false) := by kernel_rfl
theorem run_Uempty (n m : Nat) (L M : List Int) : (callA (cfgM fnsN [] [] [] []) true 1000 Tryd.f46 [nmA 0 n 2 m] (nmM L M)).view = .br (cmpI .eql (n : Int) 0) (leafB (cmpI .eql (m : Int) 0)) (leafB false) := by kernel_rfl
theorem run_VEmpty (n m : Nat) (L M : List Int) : (callA (cfgM fnsN [] [] [] []) true 1000 Tryd.f21 [nmA 0 n 2 m] (nmM L M)).view = leafB (cmpI .eql (binI .add .i64 (n : Int) (m : Int)) 0) := by kernel_rfl
theorem run_long17 (n m : Nat) (L M : List Int) : (callA (cfgM fnsN [] [] [] []) true 1000 Tryd.f27 [nmA 0 n 2 m] (nmM L M)).view = .br (cmpI .gtr (n : Int) 1100) (leafB true) (leafB (cmpI .gtr (m : Int) 1100)) := by kernel_rfl
/-- May a name be? Is it empty? Is it longer than a law takes? -/
def maxB (k : Nat) (l : List (List Int)) : Bool := decide ((l.getD 0 []).length ≤ k) && decide ((l.getD 1 []).length ≤ k)
def emB (l : List (List Int)) : Bool := decide ((l.getD 0 []).length = 0) && decide ((l.getD 1 []).length = 0)
def longB (l : List (List Int)) : Bool := !maxB 1100 l
theorem leafB_sat {b c : Bool} (h : b = c) : (leafB b).sat (RS.met (.p (.c (.b c)))) := by subst h; exact met_b rfl rfl
theorem leq_n {n k : Nat} {i : Int} (hi : i = (k : Int)) : cmpI .leq (n : Int) i = decide (n ≤ k) := by subst hi; show decide ((n : Int) ≤ (k : Int)) = _; exact decide_eq_decide.2 (by omega)
theorem gtr_n {n k : Nat} {i : Int} (hi : i = (k : Int)) : cmpI .gtr (n : Int) i = !decide (n ≤ k) := by
  subst hi; show decide ((k : Int) < (n : Int)) = _
  by_cases h : n ≤ k
  · rw [decide_eq_true h, decide_eq_false (by omega)]; rfl
  · rw [decide_eq_false h, decide_eq_true (by omega)]; rfl
theorem eql_n {n k : Nat} {i : Int} (hi : i = (k : Int)) : cmpI .eql (n : Int) i = decide (n = k) := by rw [eql_d, hi]; exact decide_eq_decide.2 (by omega)
theorem and_sat {c d e : Bool} (h : (c && d) = e) : (R2.br c (leafB d) (leafB false)).sat (RS.met (.p (.c (.b e)))) := by
  cases c with
  | true => exact ⟨fun _ => leafB_sat h, fun h => by cases h⟩
  | false => exact ⟨fun h => (by cases h), fun _ => leafB_sat h⟩
theorem nm_fok {g : Nat} {fn : Func} {T : List (List Int) → Bool} (hfn : FnOk Tryd.prog g fn) (hb : fn.body.isSome = true)
    (h : ∀ L M : List Int, L.length ≤ 9223372036854775807 → M.length ≤ 9223372036854775807 → ∃ r, (callA (cfgM fnsN [] [] [] []) true 1000 fn [nmA 0 L.length 2 M.length] (nmM L M)).view = r ∧ r.sat (RS.met (.p (.c (.b (T [L, M])))))) : FOk cM (qNm g T).1 (qNm g T).2 :=
  upM (fok_run (C := cfgM fnsN [] [] [] []) (shs := [shN]) (T := fun l => .one (.p (.c (.b (T l))))) (conds := fun _ => []) cokN rfl rfl hfn hb 1000 fun Ms hok _ => ⟨_, rfl, view_sat (by
    obtain ⟨⟨h0, _⟩, ⟨h1, _⟩, _⟩ := hok
    obtain ⟨r, e, hs⟩ := h (Ms 0) (Ms 1) h0 h1
    exact Eq.mpr (congrArg (R2.sat _) e) hs)⟩)
noncomputable def q_URight := qNm 31 (maxB 1000)
noncomputable def q_VRight := qNm 30 (maxB 1000)
noncomputable def q_Uempty := qNm 46 emB
noncomputable def q_VEmpty := qNm 21 emB
noncomputable def q_long17 := qNm 27 longB
theorem qs_URight : FOk cM q_URight.1 q_URight.2 := nm_fok fn_URight (by kernel_rfl) fun L M _ _ => ⟨_, run_URight _ _ L M, and_sat (by rw [leq_n (k := 1000) (i := 1000) rfl, leq_n (k := 1000) (i := 1000) rfl]; rfl)⟩
theorem qs_VRight : FOk cM q_VRight.1 q_VRight.2 := nm_fok fn_VRight (by kernel_rfl) fun L M _ _ => ⟨_, run_VRight _ _ L M, and_sat (by rw [leq_n (k := 1000) (i := 1000) rfl, leq_n (k := 1000) (i := 1000) rfl]; rfl)⟩
theorem qs_Uempty : FOk cM q_Uempty.1 q_Uempty.2 := nm_fok fn_Uempty (by kernel_rfl) fun L M _ _ => ⟨_, run_Uempty _ _ L M, and_sat (by rw [eql_n (k := 0) (i := 0) rfl, eql_n (k := 0) (i := 0) rfl]; rfl)⟩
theorem sum0 {n m : Nat} (hn : n ≤ 9223372036854775807) (hm : m ≤ 9223372036854775807) : cmpI .eql (binI .add .i64 (n : Int) (m : Int)) 0 = (decide (n = 0) && decide (m = 0)) := by
  rw [eql_d]
  have e : binI .add .i64 (n : Int) (m : Int) = IntKind.i64.wrap ((n : Int) + (m : Int)) := rfl
  rw [e]
  by_cases h : n = 0 ∧ m = 0
  · obtain ⟨rfl, rfl⟩ := h; rfl
  · have h2 : (decide (n = 0) && decide (m = 0)) = false := by
      cases hq : (decide (n = 0) && decide (m = 0)) with
      | false => rfl
      | true => rw [Bool.and_eq_true] at hq; exact absurd ⟨of_decide_eq_true hq.1, of_decide_eq_true hq.2⟩ h
    rw [h2]
    refine decide_eq_false fun hw => h ?_
    simp [IntKind.wrap, IntKind.bits, IntKind.signed] at hw
    split at hw <;> omega
theorem qs_VEmpty : FOk cM q_VEmpty.1 q_VEmpty.2 := nm_fok fn_VEmpty (by kernel_rfl) fun L M hL hM => ⟨_, run_VEmpty _ _ L M, leafB_sat (by rw [sum0 hL hM]; rfl)⟩
theorem qs_long17 : FOk cM q_long17.1 q_long17.2 := nm_fok fn_long17 (by kernel_rfl) fun L M _ _ => ⟨_, run_long17 _ _ L M, by
  rw [gtr_n (k := 1100) (i := 1100) rfl, gtr_n (k := 1100) (i := 1100) rfl]
  refine ⟨fun h => leafB_sat ?_, fun h => leafB_sat ?_⟩
  · unfold longB maxB
    show true = !(decide (L.length ≤ 1100) && decide (M.length ≤ 1100))
    cases hq : decide (L.length ≤ 1100) with
    | false => rfl
    | true => rw [hq] at h; cases h
  · unfold longB maxB
    show _ = !(decide (L.length ≤ 1100) && decide (M.length ≤ 1100))
    cases hq : decide (L.length ≤ 1100) with
    | false => rw [hq] at h; cases h
    | true => rfl⟩
end Go.Proofs.YtpaphgdbfbkihaaDoor
