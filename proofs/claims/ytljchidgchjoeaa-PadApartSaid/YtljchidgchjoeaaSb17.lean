/- Layer 10: the laws PadOf, PadWhole, PadApart. -/
import Derived.Test.YtljchidgchjoeaaSb16
namespace Go.Proofs.Ytljchidgchjoeaa
open Go Go.Ax

def qPOfV (c : List (List Int) → Bool) (T : List (List Int) → List Int) := (24, fsum [.one (.l .u64 2), .one (.w .i64)] (fun _ => []) fun l => .br (c l) (.one (.t [.c .e, .c (.b false)])) (.one (.t [.c (.s 5 .u8 (T l)), .c (.b true)])))
def qROfV (c : List (List Int) → Bool) (T : List (List Int) → List Int) := (25, fsum [.one (.l .u64 2), .one (.w .i64)] (fun _ => []) fun l => .br (c l) (.one (.t [.c .e, .c (.b false)])) (.one (.t [.c (.s 5 .u8 (T l)), .c (.b true)])))
def pSizeV (U : List (List Int) → Int) := (26, gsum [.l .u64 2, .w .i64] (fun _ => []) fun l => .p (.w .i64 (U l)))
def pFitsV (F : List (List Int) → Bool) := (27, gsum [.l .u64 2, .w .i64] (fun _ => []) fun l => .p (.b (F l)))
def pModV (M : List (List Int) → Int) := (28, gsum [.l .u64 2, .w .i64] (fun _ => []) fun l => .p (.w .i64 (M l)))
def isNo (l : List (List Int)) : Bool := decide (padN (valC (at2 l 0 0) (at2 l 0 1)) (one l 1) = 0)
def padT (l : List (List Int)) : List Int := padL (valC (at2 l 0 0) (at2 l 0 1)) (one l 1)
def sizeT (l : List (List Int)) : Int := padN (valC (at2 l 0 0) (at2 l 0 1)) (one l 1)
def yesO : Out := .done (.one (.lb true)) Mem.empty
def sbO (b : Bool) : Out := .done (.one (.sb b)) Mem.empty

theorem fn_wakes10 : FnOk Try.prog 23 Try.f23 := ⟨Try.func23, by kernel_rfl⟩
def p_wakes10 := (23, gsum [] (fun _ => []) fun _ => .p (.b true))
theorem run_wakes10 (U : List (List Int) → Int) (c : List (List Int) → Bool) (T : List (List Int) → List Int) : callA (cfgX [] [pSizeV U] [qPOfV c T] [] []) false 1000 Try.f23 [] (memG gdB) =
    .br (c [[0, 3], [64]]) (.br false noO noO) (.br true (.br (cmpI .eql ((T [[0, 3], [64]]).length : Int) 61) (.need ((0 : Int) ≤ 60) (.need ((60 : Int) < (T [[0, 3], [64]]).length) (.need (0 ≤ ((0 : Nat) : Int) + 60) (.need (((0 : Nat) : Int) + 60 < (T [[0, 3], [64]]).length)
      (.br (cmpI .eql (sel (T [[0, 3], [64]]) (((0 : Nat) : Int) + 60)) 24) (sbO (cmpI .eql (U [[0, 3], [64]]) 61)) noO))))) noO) noO) := by kernel_rfl
theorem ps_wakes10 : PSOk (cfgB [] [] []) p_wakes10.1 p_wakes10.2 :=
  PSOk.cast (C := cfgX [] [pSizeV sizeT] [qPOfV isNo padT] [] []) (psok_e (C := cfgX [] [pSizeV sizeT] [qPOfV isNo padT] [] []) (cokX (by simp) (by intro p hp; simp only [List.mem_cons, List.not_mem_nil, or_false] at hp; subst hp; exact ps_Size) (by intro p hp; simp only [List.mem_cons, List.not_mem_nil, or_false] at hp; subst hp; exact qs_POf) (by simp)) rfl rfl fn_wakes10 rfl 1000 (fun _ => []) (fun _ => rfl) fun fs _ _ => ⟨_, run_wakes10 sizeT isNo padT, by
    have e1 : isNo [[0, 3], [64]] = false := by kernel_rfl
    have e2 : padT [[0, 3], [64]] = 128 :: (List.replicate 52 0 ++ [0, 0, 0, 0, 0, 0, 0, 24]) := by kernel_rfl
    have e3 : sizeT [[0, 3], [64]] = 61 := by kernel_rfl
    rw [e1, e2, e3]
    refine ⟨fun h => (by cases h), fun _ => ⟨fun _ => ⟨fun _ => ?_, fun h => ?_⟩, fun h => (by cases h)⟩⟩
    · exact ⟨by decide, by decide, by decide, by decide, fun _ => sat_sym rfl rfl, fun h => absurd h (by decide)⟩
    · exact absurd h (by decide)⟩) rfl rfl rfl

/-! ## PadOf -/

theorem fn_PadOf : FnOk Try.prog 7 Try.f7 := ⟨Try.func7, by kernel_rfl⟩
theorem run_PadOf (U : List (List Int) → Int) (c : List (List Int) → Bool) (T : List (List Int) → List Int) (h l s : Int) : callA (cfgX [] [p_wakes10, pSizeV U] [qPOfV c T, qROfV c T, q_Same] [] []) false 1000 Try.f7 [C2 h l, .one (.si .i64 s)] (memG gdB) =
    .br (c [[h, l], [s]]) (.br (c [[h, l], [s]]) (.br true (.br true (sbO (cmpI .eql (U [[h, l], [s]]) 0)) noO) noO) (.need (0 + (T [[h, l], [s]]).length ≤ (T [[h, l], [s]]).length) (.br (decide ([] = partQ (T [[h, l], [s]]) 0 (T [[h, l], [s]]).length)) (.br false (sbO (cmpI .eql (U [[h, l], [s]]) (T [[h, l], [s]]).length)) noO) noO)))
      (.br (c [[h, l], [s]]) (.need (0 + (T [[h, l], [s]]).length ≤ (T [[h, l], [s]]).length) (.br (decide (partQ (T [[h, l], [s]]) 0 (T [[h, l], [s]]).length = [])) (.br false (sbO (cmpI .eql (U [[h, l], [s]]) 0)) noO) noO))
        (.need (0 + (T [[h, l], [s]]).length ≤ (T [[h, l], [s]]).length) (.need (0 + (T [[h, l], [s]]).length ≤ (T [[h, l], [s]]).length) (.br (decide (partQ (T [[h, l], [s]]) 0 (T [[h, l], [s]]).length = partQ (T [[h, l], [s]]) 0 (T [[h, l], [s]]).length)) (.br true (sbO (cmpI .eql (U [[h, l], [s]]) (T [[h, l], [s]]).length)) noO) noO)))) := by kernel_rfl
theorem padL_len {V s : Int} (h : padN V s ≠ 0) : ((padL V s).length : Int) = padN V s := by
  obtain ⟨h1, h2, h3, h4⟩ := padN_lt h
  unfold padL tailL
  rw [put16_eq]
  simp only [List.length_cons, List.length_append, List.length_replicate, List.length_drop, List.length_nil]
  rcases h1 with e | e <;> rw [e] at h4 ⊢ <;> omega
theorem mem1 {α : Type} {P : α → Prop} {x : α} (h : P x) : ∀ p ∈ [x], P p := by intro p hp; simp only [List.mem_cons, List.not_mem_nil, or_false] at hp; subst hp; exact h
theorem memc {α : Type} {P : α → Prop} {x : α} {l : List α} (h : P x) (hl : ∀ p ∈ l, P p) : ∀ p ∈ x :: l, P p := by
  intro p hp
  rcases List.mem_cons.1 hp with rfl | hp
  · exact h
  · exact hl p hp
theorem law_PadOf {W : World} {base : Nat} {args : Array Value} (hsz : Try.f7.params.toList.length = args.toList.length)
    (hval : ∀ (j : Nat) t v, Try.f7.params[j]? = some t → args[j]? = some v → Value.okWide Try.prog W .any base t v) :
    Calls Try.prog 7 args W fun e w' => e = .returned (.bool true) ∧ RowKit.Below W.heap.size W w' :=
  law_e (C := cfgX [] [p_wakes10, pSizeV sizeT] [qPOfV isNo padT, qROfV isNo padT, q_Same] [] []) (cokX (by simp) (memc ps_wakes10 (mem1 ps_Size)) (memc qs_POf (memc qs_ROf (mem1 qs_Same))) (by simp)) rfl rfl fn_PadOf (shs := [.l .u64 2, .w .i64]) (by kernel_rfl) 1000
    (fun fs => [C2 (fs 0 0) (fs 0 1), .one (.si .i64 (fs 1 0))]) (fun _ => rfl) (fun fs _ => ⟨_, run_PadOf sizeT isNo padT (fs 0 0) (fs 0 1) (fs 1 0), by
      generalize fs 0 0 = h
      generalize fs 0 1 = l
      generalize fs 1 0 = s
      have e1 : isNo [[h, l], [s]] = decide (padN (valC h l) s = 0) := rfl
      have e2 : sizeT [[h, l], [s]] = padN (valC h l) s := rfl
      have e3 : padT [[h, l], [s]] = padL (valC h l) s := rfl
      rw [e1, e2, e3]
      by_cases h0 : padN (valC h l) s = 0
      · rw [decide_eq_true h0, h0]
        exact ⟨fun _ => ⟨fun _ => ⟨fun _ => ⟨fun _ => .inl rfl, fun h => (by cases h)⟩, fun h => (by cases h)⟩, fun h => (by cases h)⟩, fun h => (by cases h)⟩
      · rw [decide_eq_false h0]
        refine ⟨fun h => (by cases h), fun _ => ⟨fun h => (by cases h), fun _ => ⟨by omega, by omega, fun _ => ⟨fun _ => .inl ?_, fun h => (by cases h)⟩, fun h => (by simp at h)⟩⟩⟩
        rw [padL_len h0]
        simp [cmpI]⟩) hsz hval (fun p hp => by cases hp)
end Go.Proofs.Ytljchidgchjoeaa
