/- Layer 10: how long a padding is. -/
import Derived.Test.YtljchidgchjoeaaSb12
namespace Go.Proofs.Ytljchidgchjoeaa
open Go Go.Ax

theorem fn_Size : FnOk Try.prog 26 Try.f26 := ⟨Try.func26, by kernel_rfl⟩
noncomputable def bd_size : Code := loopAt Try.f26 0
/-- What is left over of so many bytes and the padding. -/
def leftI (V s n : Int) : Int := modV (valC 0 (IntKind.u64.wrap (binI .add .i64 (modV V s) n))) s
structure ISize where
  t : TypeId
  h : Int
  l : Int
  s : Int
  n0 : Int
  n : Int
def bl_size (t : TypeId) (h l : Int) : List AB := [.cells t [.si .u64 h, .si .u64 l]]
def St_size (x : ISize) : LS := ⟨[(5, .one (.si .i64 x.n)), (1, .one (.si .i64 x.s)), (2, .one (.ptr 0 0))], bl_size x.t x.h x.l⟩
def pi_size (s : LS) : Option ISize := match s with
  | ⟨[(5, x), (1, y), (2, .one (.ptr 0 0))], [.cells t [.si .u64 h, .si .u64 l]]⟩ => match i64? x, i64? y with
    | some n, some s => some ⟨t, h, l, s, n, n⟩
    | _, _ => none
  | _ => none
theorem pi_size_fits (s : LS) (x : ISize) (h : pi_size s = some x) : s.fits (St_size x) := by
  unfold pi_size at h
  split at h
  · split at h
    · rename_i n s' hn hs
      cases h
      exact ⟨⟨rfl, i64_fits hn, rfl, i64_fits hs, rfl, .inl rfl, trivial⟩, rfl⟩
    · cases h
  · cases h
theorem run_bd_size (x : ISize) (X : AE → Option LS → Prop) :
    exec (cfgB [] [p_CMod] []) 100 (.run bd_size) (slots 34 (St_size x).sl) (memX gdB (St_size x).bl) (endX 0 34 [5, 1, 2] [.fix 0] [false] X) =
    .br (cmpI .neq (leftI (valC x.h x.l) x.s x.n) 0) (.need (X .normal (some ⟨[(5, .one (.si .i64 (binI .add .i64 x.n 1))), (1, .one (.si .i64 x.s)), (2, .one (.ptr 0 0))], bl_size x.t x.h x.l⟩)) (.done .any Mem.empty))
      (.need (X (.exit 0) (some (St_size x))) (.done .any Mem.empty)) := by kernel_rfl
def padEnd (r n s : Int) : Int := n + (-(r + n)) % s
theorem leftI_eq {V s n : Int} (hs : s = 64 ∨ s = 128) (h1 : 0 ≤ n) (h2 : n ≤ 1000) : leftI V s n = (V % s + n) % s := by
  unfold leftI
  have a1 : 0 ≤ V % s ∧ V % s < 128 := by rcases hs with rfl | rfl <;> omega
  have e1 : binI .add .i64 (V % s) n = V % s + n := wrap_ok (ok64 (by omega) (by omega))
  have e2 : IntKind.u64.wrap (V % s + n) = V % s + n := wrap_ok (oku (by omega) (by omega))
  rw [modV_in (V := V) (by omega) (by omega), e1, e2, modV_in (by omega) (by omega)]
  congr 1
  unfold valC; omega
def Inv_size (x : ISize) : Prop := (x.s = 64 ∨ x.s = 128) ∧ 0 ≤ x.n0 ∧ x.n0 ≤ 100 ∧ x.n0 ≤ x.n ∧ x.n ≤ padEnd (valC x.h x.l % x.s) x.n0 x.s
def ok_size (x : ISize) : Prop := (x.s = 64 ∨ x.s = 128) ∧ 0 ≤ x.n ∧ x.n ≤ 100 ∧ x.n0 = x.n
def Ex_size (x : ISize) (e : AE) (s : LS) : Prop := e = .exit 0 ∧ s = ⟨[(5, .one (.si .i64 (padEnd (valC x.h x.l % x.s) x.n0 x.s)))], bl_size x.t x.h x.l⟩
noncomputable def F_size : TM → Mem → (AE → TM → Mem → Out) → Out := lqF gdB 34 [] [5, 1, 2] [.of 2] [false] pi_size ok_size fun x k => k (.exit 0) ⟨[(5, .one (.si .i64 (padEnd (valC x.h x.l % x.s) x.n0 x.s)))], bl_size x.t x.h x.l⟩
theorem cok_size : COk (cfgB [] [p_CMod] []) := cokB (by simp) (by simp [ps_CMod]) (by simp)
theorem lq_size : LoopQ (cfgB [] [] []) bd_size F_size := by
  refine LoopQ.cast (C := cfgB [] [p_CMod] []) (C' := cfgB [] [] []) rfl rfl rfl ?_
  refine lq_rule (C := cfgB [] [p_CMod] []) cok_size rfl (n := 100) (ri := [.fix 0]) (St := St_size) (Inv := Inv_size) (mu := fun x => (padEnd (valC x.h x.l % x.s) x.n0 x.s - x.n).toNat) (Ex := Ex_size) pi_size_fits (fun x h => ?_) (fun K k x _ hs e s he => ?_) (fun x hI => ?_)
  · obtain ⟨h1, h2, h3, h4⟩ := h
    exact ⟨h1, by omega, by omega, by omega, by rw [h4]; unfold padEnd; rcases h1 with e | e <;> rw [e] <;> omega⟩
  · obtain ⟨rfl, rfl⟩ := he
    exact hs
  · show Out.sat (fun _ _ => True) (exec (cfgB [] [p_CMod] []) 100 (.run bd_size) (slots 34 (St_size x).sl) (memX gdB (St_size x).bl) (endX 0 34 [5, 1, 2] [.fix 0] [false] _))
    rw [run_bd_size]
    obtain ⟨t, h, l, s, n0, n⟩ := x
    obtain ⟨h1, h2, h3, h4, h5⟩ := hI
    dsimp only at h1 h2 h3 h4 h5 ⊢
    have hb : n ≤ 400 := by unfold padEnd at h5; rcases h1 with rfl | rfl <;> omega
    have hl := leftI_eq (V := valC h l) (s := s) (n := n) h1 (by omega) (by omega)
    rw [hl]
    have key : (valC h l % s + n) % s = 0 ↔ n = padEnd (valC h l % s) n0 s := by
      unfold padEnd at h5 ⊢
      rcases h1 with rfl | rfl <;> constructor <;> intro h <;> omega
    refine ⟨fun hc => ?_, fun hc => ?_⟩
    · have hc : (valC h l % s + n) % s ≠ 0 := by simpa [cmpI] using hc
      have hne : n ≠ padEnd (valC h l % s) n0 s := fun e => hc (key.2 e)
      have hi' : binI .add .i64 n 1 = n + 1 := wrap_ok (ok64 (by omega) (by omega))
      rw [hi']
      exact ⟨⟨⟨t, h, l, s, n0, n + 1⟩, ⟨h1, h2, h3, by simp only; omega, by simp only; omega⟩, by simp only; omega, fun e s' h => h, ⟨rfl, .inl rfl, rfl, .inl rfl, rfl, .inl rfl, trivial⟩, rfl⟩, trivial⟩
    · have hc : (valC h l % s + n) % s = 0 := by simpa [cmpI] using hc
      have hn := key.1 hc
      refine ⟨⟨_, ⟨rfl, rfl⟩, ⟨rfl, .inl (by simp only [← hn]), trivial⟩, rfl⟩, trivial⟩

/-! ## The function -/

/-- How long a padding is: nought where there is none. -/
def padN (V s : Int) : Int := if (s = 64 ∨ s = 128) ∧ fits V s = true then padEnd (V % s) (1 + s / 8) s else 0
def T_Size : List (List Int) → GR := fun l => .p (.w .i64 (padN (valC (at2 l 0 0) (at2 l 0 1)) (one l 1)))
def n0I (s : Int) : Int := binI .add .i64 1 (binI .quo .i64 s 8)
def sizeEnd (h l s : Int) : Out := .need (bd_size = bd_size) (.need ((s = 64 ∨ s = 128) ∧ 0 ≤ n0I s ∧ n0I s ≤ 100 ∧ n0I s = n0I s) (.done (.one (.si .i64 (padEnd (valC h l % s) (n0I s) s))) Mem.empty))
theorem run_Size (h l s : Int) : callA (cfgQ [] [p_Fits, p_CMod] [] [(4, bd_size, F_size)]) false 1000 Try.f26 [C2 h l, .one (.si .i64 s)] (memG gdB) =
    .br (cmpI .neq s 64) (.br (cmpI .neq s 128) (li64 0) (.br (!(fits (valC h l) s)) (li64 0) (sizeEnd h l s))) (.br (!(fits (valC h l) s)) (li64 0) (sizeEnd h l s)) := by kernel_rfl
def p_Size := (26, gsum [.l .u64 2, .w .i64] (fun _ => []) T_Size)
theorem upQP {fns : List (Nat × Func)} {ps : List (Nat × (List AV → Mem → Option (List Prop × AV)))} {fs : List (Nat × (List AV → Mem → Option (List Prop × RT)))} {lq : List (Nat × Code × (TM → Mem → (AE → TM → Mem → Out) → Out))} {g : Nat} {F : List AV → Mem → Option (List Prop × AV)}
    (h : PSOk (cfgQ fns ps fs lq) g F) : PSOk (cfgB [] [] []) g F := h.cast rfl rfl rfl
theorem ps_Size : PSOk (cfgB [] [] []) p_Size.1 p_Size.2 :=
  upQP (psok_e (C := cfgQ [] [p_Fits, p_CMod] [] [(4, bd_size, F_size)]) (cokQ (by simp) (by simp [ps_Fits, ps_CMod]) (by simp) (fun p hp => by simp at hp; subst hp; exact lq_size)) rfl rfl fn_Size rfl 1000 (fun fs => [C2 (fs 0 0) (fs 0 1), .one (.si .i64 (fs 1 0))]) (fun _ => rfl) fun fs h _ => by
    have fin : (fs 1 0 = 64 ∨ fs 1 0 = 128) → (Out.br (!(fits (valC (fs 0 0) (fs 0 1)) (fs 1 0))) (li64 0) (sizeEnd (fs 0 0) (fs 0 1) (fs 1 0))).sat fun v _ => v.flat = true ∧ ∀ val, v.R (fun _ => 0) 0 val → (GR.mk false (.p (.w .i64 (padN (valC (fs 0 0) (fs 0 1)) (fs 1 0))))).R (fun _ => 0) 0 val := fun hs => by
      have hn : n0I (fs 1 0) = 1 + fs 1 0 / 8 := by rcases hs with e | e <;> rw [e] <;> rfl
      refine ⟨fun hf => sat_sym ?_ rfl, fun hf => ⟨rfl, ⟨hs, by rw [hn]; omega, by rw [hn]; omega, rfl⟩, sat_same ?_⟩⟩
      · have : padN (valC (fs 0 0) (fs 0 1)) (fs 1 0) = 0 := if_neg (fun q => by rw [q.2] at hf; cases hf)
        rw [this]; rfl
      · have hf : fits (valC (fs 0 0) (fs 0 1)) (fs 1 0) = true := by simpa using hf
        have : padN (valC (fs 0 0) (fs 0 1)) (fs 1 0) = padEnd (valC (fs 0 0) (fs 0 1) % fs 1 0) (1 + fs 1 0 / 8) (fs 1 0) := if_pos ⟨hs, hf⟩
        rw [this, hn]; rfl
    refine ⟨_, run_Size (fs 0 0) (fs 0 1) (fs 1 0), fun h1 => ⟨fun h2 => sat_sym ?_ rfl, fun h2 => fin (.inr (by simpa [cmpI] using h2))⟩, fun h1 => fin (.inl (by simpa [cmpI] using h1))⟩
    have a1 : fs 1 0 ≠ 64 := by simpa [cmpI] using h1
    have a2 : fs 1 0 ≠ 128 := by simpa [cmpI] using h2
    show _ = (GR.mk false (.p (.w .i64 (padN (valC (fs 0 0) (fs 0 1)) (fs 1 0)))))
    have : padN (valC (fs 0 0) (fs 0 1)) (fs 1 0) = 0 := if_neg (fun q => by rcases q.1 with e | e; exact a1 e; exact a2 e)
    rw [this]; rfl)

end Go.Proofs.Ytljchidgchjoeaa
