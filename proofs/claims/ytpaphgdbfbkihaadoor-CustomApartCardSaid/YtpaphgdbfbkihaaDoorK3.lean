/- Package code: a number at the right, padding. -/
import Derived.Test.YtpaphgdbfbkihaaDoorK2
namespace Go.Proofs.YtpaphgdbfbkihaaDoor
open Go Go.Ax

/-! ## Right -/

def qCloneV (T : List (List Int) → RT) := (45, fsum [.one (.s .u8)] (fun l => [(l.getD 0 []).length ≤ bigLen]) T)
noncomputable def cRight (z : ITrim → Nat) : Cfg := cfgM fnsLeft [] [q_Clone] [(1, bd_trim, F_trim z)] []
def rightB (ps : List Prop) (M : List Int) (b : Int) (k : Nat) : R2 :=
  needR (ps ++ [M.length ≤ bigLen]) (.br (decide (M = [])) (needR [0 < [b].length, lenP ([] ++ [b])] (leafL ([] ++ [b]) (k + 1))) (needR [M.length = M.length, True, lenP (M ++ [b])] (leafL (M ++ [b]) (k + 3))))
theorem run_Right (x : Int) (z : ITrim → Nat) : (callA (cRight z) true 1000 Tryd.f18 [.one (.si .u64 x)] (memX gdM [.gone, .gone])).view =
    needR [(0 : Int) ≤ 0, 0 ≤ binI .mul .i64 8 ((1 : Nat) : Int), ((1 : Nat) : Int) * binI .mul .i64 8 ((1 : Nat) : Int) ≤ 140737488355328, binI .mul .i64 8 ((1 : Nat) : Int) ≤ 9223372036854775807]
      (appAll (put8 x) 0 [] fun n L => trimR z n L (fun d => rightB [] [0] 1 (30 + d)) fun o m => rightB [o + m ≤ L.length] (partQ L o m) (IntKind.u8.wrap (m : Int)) 31) := by kernel_rfl
/-- A number, encoded at the right. -/
def rightN (x : Nat) : List Int := digN x ++ [(nbN x : Int)]
def T_Right : List (List Int) → List Int := fun l => rightN (one l 0).toNat
def q_Right := (18, fsum [.one (.w .u64)] (fun _ => []) fun l => .one (.p (.c (.s 5 .u8 (T_Right l)))))
theorem cokRight : COk (cRight z_trim) := cokM (memc fn_digits (memc fn_PutBig (memc fn_put (memc fn_TrimLeft (mem1 fn_trimByte))))) mem0 (mem1 qs_Clone) (mem1 lq_trim)
theorem rightB_sat {ps : List Prop} {M N : List Int} {b : Int} {k : Nat} (hp : allP ps) (hM : M ≠ []) (hl : M.length ≤ 1000) (hN : M ++ [b] = N) : (rightB ps M b k).sat (RS.met (.p (.c (.s 5 .u8 N)))) := by
  refine needR_sat ((allP_iff).2 ⟨hp, ⟨by unfold bigLen; omega, trivial⟩⟩) ⟨fun h => absurd (of_decide_eq_true h) hM, fun _ => needR_sat ⟨rfl, trivial, lenP_of (by simp; omega), trivial⟩ (leafL_sat hN)⟩
set_option maxRecDepth 100000 in
theorem qs_Right : FOk cM q_Right.1 q_Right.2 :=
  upM (fok_run (C := cRight z_trim) (shs := [.one (.w .u64)]) (T := fun l => .one (.p (.c (.s 5 .u8 (T_Right l))))) (conds := fun _ => []) cokRight rfl rfl fn_Right (by kernel_rfl) 1000 fun Ms hok _ => ⟨_, rfl, view_sat (by
    obtain ⟨⟨hl, hk⟩, _⟩ := hok
    have hk : okI .u64 ((Ms 0).getD 0 0) := by
      match hq : Ms 0, hl with
      | [y], _ => exact hk y (by rw [hq]; simp)
    refine Eq.mpr (congrArg (R2.sat _) (run_Right ((Ms 0).getD 0 0) z_trim)) ?_
    show R2.sat (RS.met (.p (.c (.s 5 .u8 (rightN ((Ms 0).getD 0 0).toNat))))) _
    obtain ⟨h1, h2⟩ := of_oku hk
    generalize (Ms 0).getD 0 0 = y at *
    obtain ⟨x, rfl⟩ := Int.eq_ofNat_of_zero_le h1
    have hx : x < 18446744073709551616 := by omega
    rw [Int.toNat_natCast]
    refine needR_sat ⟨by decide, by decide, by decide, by decide, trivial⟩ (appAll_sat (put8 (x : Int)) 0 [] rfl (by simp [put8]) ?_)
    rw [List.nil_append]
    refine trimR_sat hx (fun h0 d => ?_) (fun o ho hlo => ?_)
    · subst h0
      exact rightB_sat trivial (by decide) (by decide) rfl
    · have hb := nbN_bd hx
      rw [ho, wrap_nb hx]
      refine rightB_sat ⟨hlo, trivial⟩ (fun e => ?_) (by rw [digN_len]; omega) rfl
      have := congrArg List.length e
      rw [digN_len] at this
      simp at this; omega)⟩)

/-! ## Pad -/

noncomputable def cPad (T : List (List Int) → List Int) (ok : IPad → Prop) (fin : IPad → List Int) : Cfg := cfgM [] [] [qLeftV T] [(4, bd_pad, F_pad ok fin)] []
noncomputable def padR (bd : Code) (T L : List Int) (n : Nat) (ok : IPad → Prop) (fin : IPad → List Int) (w : Int) : R2 :=
  needR [T.length = T.length, 0 + n ≤ L.length, True, lenP (T ++ partQ L 0 n), bd = bd, ok ⟨w, T ++ partQ L 0 n, (T ++ partQ L 0 n).length, T ++ partQ L 0 n⟩] (leafL (fin ⟨w, T ++ partQ L 0 n, (T ++ partQ L 0 n).length, T ++ partQ L 0 n⟩) 8)
noncomputable def padC (bd : Code) (T L : List Int) (n : Nat) (ok : IPad → Prop) (fin : IPad → List Int) (w : Int) : R2 :=
  .br (cmpI .lss w 1) (.leaf (.p (.c .e)) [0] []) (.br (cmpI .gtr w 1000) (.leaf (.p (.c .e)) [0] []) (padR bd T L n ok fin w))
theorem run_Pad (T : List (List Int) → List Int) (ok : IPad → Prop) (fin : IPad → List Int) (w : Int) (n : Nat) (L : List Int) : (callA (cPad T ok fin) true 1000 Tryd.f23 [.one (.si .i64 w), .one (.slr 2 3 0 n)] (memX gdM [.gone, .gone, .rseq .u8 L 3, .gone])).view =
    padC bd_pad (T [[IntKind.u64.wrap w]]) L n ok fin w := by kernel_rfl
/-- Bytes, padded to a width; nothing where it is none. -/
def padW (w : Int) (M : List Int) : List Int := wholeN w (leftN w.toNat ++ M)
def T_Pad : List (List Int) → RT := fun l => .br (decide (1 ≤ one l 0) && decide (one l 0 ≤ 1000)) (.one (.p (.c (.s 5 .u8 (padW (one l 0) (l.getD 1 [])))))) (.one (.p (.c .e)))
def q_Pad := (23, fsum [.one (.w .i64), .one (.s .u8)] (fun l => [(l.getD 1 []).length ≤ bigLen]) T_Pad)
theorem padC_sat {bd : Code} {w : Int} {M : List Int} (hM : M.length ≤ bigLen) : (padC bd (T_Left [[IntKind.u64.wrap w]]) M M.length ok_pad fin_pad w).sat (RS.met (RT.br (decide (1 ≤ w) && decide (w ≤ 1000)) (.one (.p (.c (.s 5 .u8 (padW w M))))) (.one (.p (.c .e)))).now) := by
  have none_ok : ¬ (1 ≤ w ∧ w ≤ 1000) → (R2.leaf (.p (.c .e)) [0] []).sat (RS.met (RT.br (decide (1 ≤ w) && decide (w ≤ 1000)) (.one (.p (.c (.s 5 .u8 (padW w M))))) (.one (.p (.c .e)))).now) := fun h => by
    have e : (decide (1 ≤ w) && decide (w ≤ 1000)) = false := by
      cases hq : (decide (1 ≤ w) && decide (w ≤ 1000)) with
      | false => rfl
      | true => rw [Bool.and_eq_true] at hq; exact absurd ⟨of_decide_eq_true hq.1, of_decide_eq_true hq.2⟩ h
    rw [e]
    exact ⟨rfl, ⟨trivial, trivial⟩, List.nodup_nil⟩
  refine ⟨fun h => none_ok fun q => ?_, fun h => ⟨fun h' => none_ok fun q => ?_, fun h' => ?_⟩⟩
  · have h : w < 1 := of_decide_eq_true h
    omega
  · have h' : 1000 < w := of_decide_eq_true h'
    omega
  · have h1 : ¬ w < 1 := of_decide_eq_false h
    have h2 : ¬ 1000 < w := of_decide_eq_false h'
    have e1 : decide (1 ≤ w) = true := decide_eq_true (by omega)
    have e2 : decide (w ≤ 1000) = true := decide_eq_true (by omega)
    rw [e1, e2]
    have ew : IntKind.u64.wrap w = w := wrap_ok (oku (by omega) (by omega))
    have hT : T_Left [[IntKind.u64.wrap w]] = leftN w.toNat := by rw [ew]; rfl
    rw [hT]
    unfold padR
    rw [partQ_all]
    have hb : M.length ≤ 100000000000000 := hM
    have hl := leftN_small (x := w.toNat) (by omega)
    refine needR_sat ⟨rfl, by omega, trivial, lenP_of (by rw [List.length_append]; omega), rfl, ⟨by show 1 ≤ w; omega, by show w ≤ 1000; omega, rfl, by show (leftN w.toNat ++ M).length ≤ _; rw [List.length_append]; omega, rfl⟩, trivial⟩ (leafL_sat rfl)
set_option maxRecDepth 100000 in
theorem qs_Pad : FOk cM q_Pad.1 q_Pad.2 :=
  upM (fok_run (C := cPad T_Left ok_pad fin_pad) (shs := [.one (.w .i64), .one (.s .u8)]) (T := T_Pad) (conds := fun l => [(l.getD 1 []).length ≤ bigLen]) (cokM mem0 mem0 (mem1 qs_Left) (mem1 lq_pad)) rfl rfl fn_Pad (by kernel_rfl) 1000 fun Ms _ hc => ⟨_, rfl, view_sat (by
    have hc : (Ms 1).length ≤ bigLen := hc.1
    refine Eq.mpr (congrArg (R2.sat _) (run_Pad T_Left ok_pad fin_pad ((Ms 0).getD 0 0) (Ms 1).length (Ms 1))) ?_
    exact padC_sat hc)⟩)
end Go.Proofs.YtpaphgdbfbkihaaDoor
