/- Layer 12: the reference's constants (its loop by a contract), and iota. -/
import Derived.Test.YtpnikmkijedmbaaDoorSa8
import Derived.Test.YtpnikmkijedmbaaDoorLp
namespace Go.Proofs.YtpnikmkijedmbaaDoor
open Go Go.Ax

/-! ## The register -/

def lfsStep (r : Int) : Int := iteI (cmpI .geq (binI .mul .i64 2 r) 256) (IntKind.i64.wrap (xo (IntKind.u64.wrap (binI .sub .i64 (binI .mul .i64 2 r) 256)) 113)) (binI .mul .i64 2 r)
def lfs : Nat → Int
  | 0 => 1
  | k + 1 => lfsStep (lfs k)

def lfsTab : List Int := [1, 2, 4, 8, 16, 32, 64, 128, 113, 226, 181, 27, 54, 108, 216, 193, 243, 151, 95, 190, 13, 26, 52, 104, 208, 209, 211, 215, 223, 207, 239, 175, 47, 94, 188, 9, 18, 36, 72, 144, 81, 162, 53, 106, 212, 217, 195, 247, 159, 79, 158, 77, 154, 69, 138, 101, 202, 229, 187, 7, 14, 28, 56, 112, 224, 177, 19, 38, 76, 152, 65, 130, 117, 234, 165, 59, 118, 236, 169, 35, 70, 140, 105, 210, 213, 219, 199, 255, 143, 111, 222, 205, 235, 167, 63, 126, 252, 137, 99, 198, 253, 139, 103, 206, 237, 171, 39, 78, 156, 73, 146, 85, 170, 37, 74, 148, 89, 178, 21, 42, 84, 168, 33, 66, 132, 121, 242, 149, 91, 182, 29, 58, 116, 232, 161, 51, 102, 204, 233, 163, 55, 110, 220, 201, 227, 183, 31, 62, 124, 248, 129, 115, 230, 189, 11, 22, 44, 88, 176, 17, 34, 68, 136, 97, 194, 245, 155, 71, 142, 109, 218, 197, 251, 135, 127, 254, 141, 107, 214, 221, 203, 231, 191, 15, 30, 60, 120, 240, 145, 83, 166, 61, 122, 244, 153, 67, 134, 125, 250, 133, 123, 246, 157, 75, 150, 93, 186, 5, 10, 20, 40, 80, 160, 49, 98, 196, 249, 131, 119, 238, 173, 43, 86, 172, 41, 82, 164, 57, 114, 228, 185, 3, 6, 12, 24, 48, 96, 192, 241, 147, 87, 174, 45, 90, 180, 25, 50, 100, 200, 225, 179, 23, 46, 92, 184, 1]
theorem lfsTab_steps : ((List.range 255).all fun k => decide (lfsStep (nth lfsTab k) = nth lfsTab (k + 1))) = true := by kernel_rfl
theorem lfs_tab : ∀ {i : Nat}, i ≤ 255 → lfs i = nth lfsTab i
  | 0, _ => rfl
  | i + 1, h => by
    have h1 := List.all_eq_true.1 lfsTab_steps i (List.mem_range.2 (by omega))
    rw [← of_decide_eq_true h1, ← lfs_tab (by omega)]
    rfl

theorem fn_rc : FnOk Tryd.prog 44 Tryd.f44 := ⟨Tryd.func44, by kernel_rfl⟩
noncomputable def bd_rc : Code := loopAt Tryd.f44 0
def st_rc (t r i : Int) : TM := slots 23 [(0, .one (.si .i64 t)), (3, .one (.si .i64 r)), (4, .one (.si .i64 i))]
theorem run_bd_rc (G : AE → Nat → AV → AV → AV → Mem → Out) (t r i : Int) (m : Mem) :
    exec (cfg [] [p_Xor]) 100 (.run bd_rc) (st_rc t r i) m (fun e tm mem => G e tm.sz (tm.get 0) (tm.get 3) (tm.get 4) mem) =
      .br (cmpI .lss i (binI .rem .i64 t 255))
        (.br (cmpI .geq (binI .mul .i64 2 r) 256)
          (G .normal 23 (.one (.si .i64 t)) (.one (.si .i64 (IntKind.i64.wrap (xo (IntKind.u64.wrap (binI .sub .i64 (binI .mul .i64 2 r) 256)) 113)))) (.one (.si .i64 (binI .add .i64 i 1))) m)
          (G .normal 23 (.one (.si .i64 t)) (.one (.si .i64 (binI .mul .i64 2 r))) (.one (.si .i64 (binI .add .i64 i 1))) m))
        (G (.exit 0) 23 (.one (.si .i64 t)) (.one (.si .i64 r)) (.one (.si .i64 i)) m) := by kernel_rfl

theorem slots1_get (v : AV) : (slots 23 [(3, v)]).get 3 = v := by kernel_rfl
def P_rc (t r i : Int) (m : Mem) (e : AE) (sz : Nat) (v0 v3 v4 : AV) (m' : Mem) : Prop :=
  sz = 23 ∧ m' = m ∧ match e with
    | .normal => i < t.tmod 255 ∧ v0 = .one (.si .i64 t) ∧ v3 = .one (.si .i64 (lfsStep r)) ∧ v4 = .one (.si .i64 (binI .add .i64 i 1))
    | .exit 0 => ¬ i < t.tmod 255 ∧ v3 = .one (.si .i64 r)
    | _ => False

theorem rc_rounds {B : Nat → Prop} {w0 : World} {Q : Exit → Act → World → Prop} (t : Int) (mem : Mem) : ∀ (d i : Nat), (t.tmod 255).toNat - i = d → i ≤ (t.tmod 255).toNat → ∀ (env0 env : Nat → Nat) (a : Act) (w : World),
    Rel (cfg [] [p_Xor]) B w0 env (st_rc t (lfs i) i) mem a w → Ext env0 mem.n env mem.n →
    (∀ env' a' w', Rel (cfg [] [p_Xor]) B w0 env' (slots 23 [(3, .one (.si .i64 (lfs (t.tmod 255).toNat)))]) mem a' w' → Ext env0 mem.n env' mem.n → Q (.exit 0) a' w') → InLoop Tryd.prog bd_rc Q a w := by
  intro d
  induction d with
  | zero =>
    intro i hd hi env0 env a w hr hx hk
    refine InLoop.round (body_step (C := cfg [] [p_Xor]) (cok (by simp) (by simp [ps_Xor])) (n := 100) (P := fun e tm m' => P_rc t (lfs i) i mem e tm.sz (tm.get 0) (tm.get 3) (tm.get 4) m') ?_ hr ?_)
    · have := run_bd_rc (fun e sz v0 v3 v4 m' => .need (P_rc t (lfs i) i mem e sz v0 v3 v4 m') (.done .any Mem.empty)) t (lfs i) i mem
      show Out.sat _ (exec _ _ _ _ _ _)
      unfold endAt
      rw [this]
      refine ⟨fun h => ?_, fun h => ⟨⟨rfl, rfl, ?_, rfl⟩, trivial⟩⟩
      · have h : (i : Int) < t.tmod 255 := of_decide_eq_true h
        omega
      · exact of_decide_eq_false h
    · intro e tm' mem' env' a' w' hP hR hE
      obtain ⟨hs, rfl, hP⟩ := hP
      cases e with
      | normal => have := hP.1; omega
      | exit id =>
        match id, hP with
        | 0, hP =>
          have e : i = (t.tmod 255).toNat := by omega
          rw [← e] at hk
          refine hk env' a' w' (hR.slots hs fun p hp env m v hv => ?_) (hx.trans hE)
          simp only [List.mem_cons, List.not_mem_nil, or_false] at hp
          subst hp
          rw [hP.2] at hv
          exact hv
      | goto l => exact hP.elim
      | ret => exact hP.elim
  | succ d ih =>
    intro i hd hi env0 env a w hr hx hk
    refine InLoop.round (body_step (C := cfg [] [p_Xor]) (cok (by simp) (by simp [ps_Xor])) (n := 100) (P := fun e tm m' => P_rc t (lfs i) i mem e tm.sz (tm.get 0) (tm.get 3) (tm.get 4) m') ?_ hr ?_)
    · have := run_bd_rc (fun e sz v0 v3 v4 m' => .need (P_rc t (lfs i) i mem e sz v0 v3 v4 m') (.done .any Mem.empty)) t (lfs i) i mem
      unfold endAt
      rw [this]
      refine ⟨fun h => ⟨fun h2 => ⟨⟨rfl, rfl, of_decide_eq_true h, rfl, ?_, rfl⟩, trivial⟩, fun h2 => ⟨⟨rfl, rfl, of_decide_eq_true h, rfl, ?_, rfl⟩, trivial⟩⟩, fun h => ?_⟩
      · unfold lfsStep; rw [h2]; rfl
      · unfold lfsStep; rw [h2]; rfl
      · have h : ¬ (i : Int) < t.tmod 255 := of_decide_eq_false h
        omega
    · intro e tm' mem' env' a' w' hP hR hE
      obtain ⟨hs, rfl, hP⟩ := hP
      cases e with
      | normal =>
        refine ih (i + 1) (by omega) (by omega) env0 env' a' w' (hR.slots hs fun p hp env m v hv => ?_) (hx.trans hE) hk
        simp only [List.mem_cons, List.not_mem_nil, or_false] at hp
        have hb : t.tmod 255 < 255 := Int.tmod_lt_of_pos _ (by decide)
        have hi' : binI .add .i64 (i : Int) 1 = ((i + 1 : Nat) : Int) := by rw [add64 (by omega) (by omega)]; omega
        rcases hp with rfl | rfl | rfl
        · rw [hP.2.1] at hv; exact hv
        · rw [hP.2.2.1] at hv; exact hv
        · rw [hP.2.2.2, hi'] at hv; exact hv
      | exit id =>
        match id, hP with
        | 0, hP => have := hP.1; omega
      | goto l => exact hP.elim
      | ret => exact hP.elim

def F_rc : TM → Mem → Option (List Prop × AE × TM × Mem) := fun tm mem =>
  match Nat.beq tm.sz 23, (tm.get 0).int, tm.get 3, tm.get 4 with
  | true, .l .i64 t, .one (.li .i64 r), .one (.li .i64 i) | true, .s .i64 t, .one (.li .i64 r), .one (.li .i64 i) => match decide (r = 1) && decide (i = 0) with
    | true => some ([], .exit 0, slots 23 [(3, .one (.li .i64 (nth lfsTab (t.tmod 255).toNat)))], mem)
    | false => none
  | _, _, _, _ => none

theorem lp_rc : LoopOk (cfg [] [p_Xor]) bd_rc F_rc := by
  intro tm mem ps e tm' mem' hF _ B w0 env a w Q hr hk
  have main : ∀ (t r i : Int), tm.sz = 23 → ((tm.get 0).int = .l .i64 t ∨ (tm.get 0).int = .s .i64 t) → tm.get 3 = .one (.li .i64 r) → tm.get 4 = .one (.li .i64 i) →
      (match decide (r = 1) && decide (i = 0) with
        | true => some (([] : List Prop), AE.exit 0, slots 23 [(3, .one (.li .i64 (nth lfsTab (t.tmod 255).toNat)))], mem)
        | false => none) = some (ps, e, tm', mem') → (Code.loop bd_rc).wp Tryd.prog Q a w := by
    intro t r i hs h0 h3 h4 h
    split at h
    · rename_i hc
      simp only [Bool.and_eq_true, decide_eq_true_eq] at hc
      obtain ⟨rfl, rfl⟩ := hc
      cases h
      refine wp_loop_in (rc_rounds (B := B) (w0 := w0) t mem _ 0 rfl (Nat.zero_le _) env env a w (hr.slots hs fun p hp env m v hv => ?_) (Ext.refl _ _) fun env' a' w' hR hE => hk env' a' w' (hR.slots rfl fun p hp env m v hv => by
        simp only [List.mem_cons, List.not_mem_nil, or_false] at hp
        subst hp
        have hb : t.tmod 255 < 255 := Int.tmod_lt_of_pos _ (by decide)
        have hv : AV.R env m ((slots 23 [(3, .one (.si .i64 (lfs (t.tmod 255).toNat)))]).get 3) v := hv
        rw [slots1_get] at hv
        have hv : AV.R env m (.one (.li .i64 (lfs (t.tmod 255).toNat))) v := hv
        rw [lfs_tab (by omega)] at hv
        exact hv) hE)
      simp only [List.mem_cons, List.not_mem_nil, or_false] at hp
      rcases hp with rfl | rfl | rfl
      · rcases hq : tm.get 0 with s | l | l
        · rw [hq] at h0 hv; exact (int_R h0).1 hv
        · rw [hq] at h0; rcases h0 with h0 | h0 <;> simp [AV.int] at h0
        · rw [hq] at h0; rcases h0 with h0 | h0 <;> simp [AV.int] at h0
      · rw [h3] at hv; exact hv
      · rw [h4] at hv; exact hv
    · cases h
  unfold F_rc at hF
  split at hF
  · rename_i t r i hs h0 h3 h4; exact main t r i (Nat.eq_of_beq_eq_true hs) (.inl h0) h3 h4 hF
  · rename_i t r i hs h0 h3 h4; exact main t r i (Nat.eq_of_beq_eq_true hs) (.inr h0) h3 h4 hF
  · cases hF

noncomputable def cfgL (fns : List (Nat × Func)) (ps : List (Nat × (List AV → Mem → Option (List Prop × AV)))) (sp : List (Nat × Nat × List Int)) (lp : List (Nat × Code × (TM → Mem → Option (List Prop × AE × TM × Mem)))) : Cfg := { P := Tryd.prog, fns := fns, gl := glFrom 0 gdA, gd := gdA, ps := ps, sp := sp, lp := lp }
theorem cokL {fns : List (Nat × Func)} {ps : List (Nat × (List AV → Mem → Option (List Prop × AV)))} {sp : List (Nat × Nat × List Int)} {lp : List (Nat × Code × (TM → Mem → Option (List Prop × AE × TM × Mem)))} (h1 : ∀ p ∈ fns, FnOk Tryd.prog p.1 p.2) (h2 : ∀ p ∈ ps, PSOk (cfg [] []) p.1 p.2) (h3 : ∀ p ∈ lp, LoopOk (cfg [] []) p.2.1 p.2.2) : COk (cfgL fns ps sp lp) :=
  ⟨mixedA, h1, fun p hp => (h2 p hp).cast rfl rfl rfl, fun p hp => LoopOk.cast (C := cfg [] []) (C' := cfgL fns ps sp lp) rfl rfl rfl (h3 p hp)⟩

end Go.Proofs.YtpnikmkijedmbaaDoor
