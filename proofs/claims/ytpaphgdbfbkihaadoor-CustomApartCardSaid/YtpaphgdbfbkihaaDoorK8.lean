/- Package code: the text that bytes begin with; the law CodeTexts. -/
import Derived.Test.YtpaphgdbfbkihaaDoorK7
namespace Go.Proofs.YtpaphgdbfbkihaaDoor
open Go Go.Ax

theorem fn_GetText : FnOk Tryd.prog 24 Tryd.f24 := ⟨Tryd.func24, by kernel_rfl⟩
noncomputable def cGetT (N S : List (List Int) → Int) (K : List (List Int) → Bool) : Cfg := cfgM [] [] [qGetV N S K, q_Clone] [] []
def noT : R2 := .leaf (.t [.c .e, .c (.i .i64 0), .c (.b false)]) [0, 0, 0] []
def eT (N S : Int) : Int := binI .add .i64 S (IntKind.i64.wrap (binI .quo .u64 N 8))
def pT (N S : Int) (L : List Int) : List Int := partQ L (0 + S.toNat) ((eT N S).toNat - S.toNat)
def getT (N S : Int) (K : Bool) (n : Nat) (L : List Int) : R2 :=
  .br (!K) noT (.br (cmpI .neq (binI .rem .u64 N 8) 0) noT (.br (cmpI .gtr (binI .quo .u64 N 8) (IntKind.u64.wrap (binI .sub .i64 (n : Int) S))) noT
    (needR [0 ≤ S, S ≤ eT N S, eT N S ≤ (n : Int), 0 + S.toNat + ((eT N S).toNat - S.toNat) ≤ L.length, (pT N S L).length ≤ bigLen]
      (.br (decide (pT N S L = [])) (.leaf (.t [.c .e, .c (.i .i64 (eT N S)), .c (.b true)]) [0, 0, 0] []) (.leaf (.t [.c (.s 5 .u8 (pT N S L)), .c (.i .i64 (eT N S)), .c (.b true)]) [(pT N S L).length, 0, 0] [2])))))
theorem run_GetText (N S : List (List Int) → Int) (K : List (List Int) → Bool) (n : Nat) (L : List Int) : (callA (cGetT N S K) true 1000 Tryd.f24 [.one (.slr 0 1 0 n)] (memX gdM (bl_get L))).view =
    .need (0 + n ≤ L.length) (getT (N [partQ L 0 n]) (S [partQ L 0 n]) (K [partQ L 0 n]) n L) := by kernel_rfl

/-- Do the bytes begin with a text? Where does it end? Which is it? -/
def tgB (M : List Int) : Bool := glB M && (decide (glN M % 8 = 0) && decide (glN M / 8 ≤ (M.length : Int) - glS M))
def tgE (M : List Int) : Int := glS M + glN M / 8
def tgM (M : List Int) : List Int := (M.drop (glS M).toNat).take (glN M / 8).toNat
def textT (B : Bool) (E : Int) (M : List Int) : RT := .br B (.br (decide (M = [])) (.one (.t [.c .e, .c (.i .i64 E), .c (.b true)])) (.one (.t [.c (.s 5 .u8 M), .c (.i .i64 E), .c (.b true)]))) (.one (.t [.c .e, .c (.i .i64 0), .c (.b false)]))
def T_GetText : List (List Int) → RT := fun l => textT (tgB (l.getD 0 [])) (tgE (l.getD 0 [])) (tgM (l.getD 0 []))
def q_GetText := (24, fsum [.one (.s .u8)] (fun l => [(l.getD 0 []).length ≤ bigLen]) T_GetText)
theorem noT_sat {B : Bool} {E : Int} {M : List Int} (h : B = false) : noT.sat (RS.met (textT B E M).now) := by
  subst h
  exact ⟨rfl, ⟨trivial, trivial, trivial, trivial⟩, List.nodup_nil⟩
theorem pow256' {k : Nat} (h : k ≤ 8) : (256 : Int) ^ k ≤ 18446744073709551616 := by
  match k, h with
  | 0, _ => decide
  | 1, _ => decide
  | 2, _ => decide
  | 3, _ => decide
  | 4, _ => decide
  | 5, _ => decide
  | 6, _ => decide
  | 7, _ => decide
  | 8, _ => decide
theorem gl_facts {M : List Int} (h8 : ∀ y ∈ M, okI .u8 y) (h : glB M = true) : 0 ≤ glN M ∧ glN M < 18446744073709551616 ∧ glS M = 1 + hd M ∧ 1 ≤ hd M ∧ hd M ≤ 8 ∧ glS M ≤ M.length ∧ glN M = nOf M := by
  obtain ⟨q1, q2, q3, q4, q5⟩ := of_decide_eq_true h
  have e1 : glN M = nOf M := by unfold glN; rw [h]; rfl
  have e2 : glS M = 1 + hd M := by unfold glS; rw [h]; rfl
  have hb := foldN_lt (l := (M.drop 1).take (hd M).toNat) (a := 0) (j := 0) (by omega) (by decide) fun y hy => h8 y (List.mem_of_mem_drop (List.mem_of_mem_take hy))
  have hl : ((M.drop 1).take (hd M).toNat).length ≤ 8 := by simp; omega
  have hp := pow256' (k := 0 + ((M.drop 1).take (hd M).toNat).length) (by omega)
  have hn : nOf M = foldN 0 ((M.drop 1).take (hd M).toNat) := rfl
  rw [e1, hn]
  exact ⟨hb.1, by omega, e2, q2, q3, by rw [e2]; omega, rfl⟩
theorem getT_sat {M : List Int} (h8 : ∀ y ∈ M, okI .u8 y) (hM : M.length ≤ bigLen) : (getT (glN M) (glS M) (glB M) M.length M).sat (RS.met (textT (tgB M) (tgE M) (tgM M)).now) := by
  have hbl : M.length ≤ 100000000000000 := hM
  have hno : (¬ (glB M = true ∧ glN M % 8 = 0 ∧ glN M / 8 ≤ (M.length : Int) - glS M)) → tgB M = false := fun h => by
    cases hq : tgB M with
    | false => rfl
    | true =>
      unfold tgB at hq
      simp only [Bool.and_eq_true, decide_eq_true_eq] at hq
      exact absurd hq h
  refine ⟨fun h => noT_sat (hno fun q => ?_), fun h => ?_⟩
  · rw [q.1] at h; cases h
  have hg : glB M = true := by
    cases hq : glB M with
    | true => rfl
    | false => rw [hq] at h; cases h
  obtain ⟨g1, g2, g3, g4, g5, g6, g7⟩ := gl_facts h8 hg
  obtain ⟨N, hN⟩ := Int.eq_ofNat_of_zero_le g1
  obtain ⟨S, hS⟩ := Int.eq_ofNat_of_zero_le (show 0 ≤ glS M by omega)
  have e1 : binI .rem .u64 (glN M) 8 = glN M % 8 := by
    show (glN M).tmod 8 = _
    exact Int.tmod_eq_emod_of_nonneg g1
  have e2 : binI .quo .u64 (glN M) 8 = glN M / 8 := by
    rw [hN]
    have : binI .quo .u64 (N : Int) ((8 : Nat) : Int) = ((N / 8 : Nat) : Int) := quoN (by omega)
    exact this
  have e3 : IntKind.u64.wrap (binI .sub .i64 (M.length : Int) (glS M)) = (M.length : Int) - glS M := by
    have : binI .sub .i64 (M.length : Int) (glS M) = (M.length : Int) - glS M := wrap_ok (ok64 (by omega) (by omega))
    rw [this]
    exact wrap_ok (oku (by omega) (by omega))
  rw [e1, e2, e3, neq_d]
  refine ⟨fun h => noT_sat (hno fun q => ?_), fun h => ⟨fun h' => noT_sat (hno fun q => ?_), fun h' => ?_⟩⟩
  · rw [decide_eq_true q.2.1] at h; cases h
  · have h' : (M.length : Int) - glS M < glN M / 8 := of_decide_eq_true h'
    omega
  have c1 : glN M % 8 = 0 := by
    cases hq : decide (glN M % 8 = 0) with
    | true => exact of_decide_eq_true hq
    | false => rw [hq] at h; cases h
  have c2 : ¬ (M.length : Int) - glS M < glN M / 8 := of_decide_eq_false h'
  have hB : tgB M = true := by
    unfold tgB
    rw [hg, decide_eq_true c1, decide_eq_true (by omega)]; rfl
  have ee : eT (glN M) (glS M) = tgE M := by
    unfold eT
    rw [e2]
    have w1 : IntKind.i64.wrap (glN M / 8) = glN M / 8 := wrap_ok (ok64 (by omega) (by omega))
    rw [w1]
    exact wrap_ok (ok64 (by omega) (by omega))
  have hE : tgE M = glS M + glN M / 8 := rfl
  have ep : pT (glN M) (glS M) M = tgM M := by
    unfold pT tgM
    rw [ee, hE, partQ_eq, Nat.zero_add]
    congr 1
    omega
  have hpl : (tgM M).length ≤ M.length := by unfold tgM; simp; omega
  rw [ee, ep, hB]
  refine needR_sat ⟨by omega, by omega, by omega, by omega, by unfold bigLen; omega, trivial⟩ ⟨fun he => ?_, fun he => ?_⟩
  · unfold textT
    show R2.sat (RS.met (RT.br (decide (tgM M = [])) _ _).now) _
    rw [he]
    exact ⟨rfl, ⟨trivial, trivial, trivial, trivial⟩, List.nodup_nil⟩
  · unfold textT
    show R2.sat (RS.met (RT.br (decide (tgM M = [])) _ _).now) _
    rw [he]
    exact ⟨rfl, ⟨rfl, trivial, trivial, trivial⟩, by simp⟩
theorem cokGetT : COk (cGetT gN gS gB) := cokM mem0 mem0 (memc qs_GetLeft (mem1 qs_Clone)) mem0
set_option maxRecDepth 100000 in
theorem qs_GetText : FOk cM q_GetText.1 q_GetText.2 :=
  upM (fok_run (C := cGetT gN gS gB) (shs := [.one (.s .u8)]) (T := T_GetText) (conds := fun l => [(l.getD 0 []).length ≤ bigLen]) cokGetT rfl rfl fn_GetText (by kernel_rfl) 1000 fun Ms hok hc => ⟨_, rfl, view_sat (by
    have hc : (Ms 0).length ≤ bigLen := hc.1
    obtain ⟨⟨_, h8⟩, _⟩ := hok
    refine Eq.mpr (congrArg (R2.sat _) (run_GetText gN gS gB (Ms 0).length (Ms 0))) ?_
    show R2.sat (RS.met (textT (tgB (Ms 0)) (tgE (Ms 0)) (tgM (Ms 0))).now) _
    rw [partQ_all]
    exact ⟨by omega, getT_sat h8 hc⟩)⟩)
end Go.Proofs.YtpaphgdbfbkihaaDoor
