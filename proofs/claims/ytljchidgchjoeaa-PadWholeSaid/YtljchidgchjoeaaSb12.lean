/- Layers 03, 04: a count's bytes. -/
import Derived.Test.YtljchidgchjoeaaSb11
namespace Go.Proofs.Ytljchidgchjoeaa
open Go Go.Ax

theorem fn_put : FnOk Try.prog 48 Try.f48 := ⟨Try.func48, by kernel_rfl⟩
theorem fn_PutBig : FnOk Try.prog 41 Try.f41 := ⟨Try.func41, by kernel_rfl⟩
theorem fn_CPut : FnOk Try.prog 18 Try.f18 := ⟨Try.func18, by kernel_rfl⟩
noncomputable def cPut : Cfg := cfgQ [(48, Try.f48), (41, Try.f41)] [] [] []
def byteAt (x : Int) (i : Nat) : Int := IntKind.u8.wrap (binI .shr .u64 x (binI .mul .i64 8 (i : Int)))
def put16 (h l : Int) : List Int := (List.range 16).map fun j => match Nat.blt j 8 with | true => byteAt h (7 - j) | false => byteAt l (15 - j)
/-- One number appended behind n others. -/
def app1 (n : Nat) (L : List Int) (b : Int) (o : R2) : R2 := .need (n = L.length) (.need True (.need ((L ++ [b]).length ≤ 140737488355328 ∧ (L ++ [b]).length * 1 ≤ 140737488355328) o))
def appAll : List Int → Nat → List Int → (Nat → List Int → R2) → R2
  | [], n, L, f => f n L
  | b :: bs, n, L, f => app1 n L b (appAll bs (L ++ [b]).length (L ++ [b]) f)
theorem run_CPut (h l : Int) : (callA cPut true 1000 Try.f18 [C2 h l] (memX gdB [.gone, .gone])).view =
    .need ((0 : Int) ≤ 0) (.need ((0 : Int) ≤ 16) (.need (((1 : Nat) : Int) * 16 ≤ 140737488355328) (.need ((16 : Int) ≤ 9223372036854775807) (appAll (put16 h l) 0 [] fun n L => .leaf (.p (.c (.s 5 .u8 L))) [n] [52])))) := by kernel_rfl
theorem appAll_sat {K : RS → List Nat → List Nat → Prop} {f : Nat → List Int → R2} : ∀ (bs : List Int) (n : Nat) (L : List Int), n = L.length → L.length + bs.length ≤ 140737488355328 → (f (L ++ bs).length (L ++ bs)).sat K → (appAll bs n L f).sat K
  | [], n, L, hn, _, h => by subst hn; simpa [appAll] using h
  | b :: bs, n, L, hn, hl, h => by
    simp only [List.length_cons] at hl
    refine ⟨hn, trivial, by simp; omega, appAll_sat bs _ (L ++ [b]) rfl (by simp; omega) ?_⟩
    rw [List.append_assoc]
    exact h
def T_Put : List (List Int) → RT := fun l => .one (.p (.c (.s 5 .u8 (put16 (at2 l 0 0) (at2 l 0 1)))))
def q_Put := (18, fsum [.one (.l .u64 2)] (fun _ => []) T_Put)
theorem cokPut : COk cPut := cokQ (by simp [fn_put, fn_PutBig]) (by simp) (by simp) (by simp)
theorem qs_Put : FOk (cfgB [] [] []) q_Put.1 q_Put.2 :=
  upQ (fok_run (C := cPut) (shs := [.one (.l .u64 2)]) (T := T_Put) (conds := fun _ => []) cokPut rfl rfl fn_CPut rfl 1000 fun Ms _ _ =>
    ⟨_, rfl, view_sat (by
      have hr := run_CPut ((Ms 0).getD 0 0) ((Ms 0).getD 1 0)
      show R2.sat _ (callA cPut true 1000 Try.f18 [C2 ((Ms 0).getD 0 0) ((Ms 0).getD 1 0)] (memX gdB [.gone, .gone])).view
      rw [hr]
      exact ⟨by decide, by decide, by decide, by decide, appAll_sat _ 0 [] rfl (by simp [put16]) ⟨rfl, ⟨rfl, trivial⟩, by simp⟩⟩)⟩)

end Go.Proofs.Ytljchidgchjoeaa
