/- Layer 16: the law CodeGets. -/
import Derived.Test.YtpaphgdbfbkihaaDoorK10
namespace Go.Proofs.YtpaphgdbfbkihaaDoor
open Go Go.Ax

theorem fn_CodeGets : FnOk Tryd.prog 7 Tryd.f7 := ⟨Tryd.func7, by kernel_rfl⟩
theorem fn_RGetText : FnOk Tryd.prog 26 Tryd.f26 := ⟨Tryd.func26, by kernel_rfl⟩
def qRGetV (N S : List (List Int) → Int) := (25, fsum [.one (.s .u8)] (fun _ => []) fun l => .one (.p (.g [.i .u64 (N l), .e, .i .i64 (S l)])))
noncomputable def cGets (N S : List (List Int) → Int) (K E B : List (List Int) → Bool) (Ei : List (List Int) → Int) (Mx : List (List Int) → List Int) : Cfg :=
  cfgM [(26, Tryd.f26)] [p_wakes16] [qGetV N S K, qGetTV B Ei Mx, qRGetV N S, qSameV E] [] []
def finG (N S : Int) (K : Bool) (E : List (List Int) → Bool) (to : Bool) (t : List Int) (long : Int) (is : Bool) (rp : List Prop) (rl : List Int) (rs : Int) : Out :=
  .br (cmpI .eql N N) (.br (cmpI .eql S S) (.br (K == cmpI .gtr S 0) (needs (srcO to t ++ rp) (.br (E [srcL to t, rl]) (.br (cmpI .eql long rs) (sbO (is == cmpI .gtr rs 0)) noO) noO)) noO) noO) noO
def aftG (N S : Int) (K : Bool) (E : List (List Int) → Bool) (n : Nat) (L : List Int) (to : Bool) (t : List Int) (long : Int) (is : Bool) : Out :=
  needs [0 + n ≤ L.length, 0 + n ≤ L.length] (.br (cmpI .eql S 0) (finG N S K E to t long is [] [] 0) (.br (cmpI .neq (binI .rem .u64 N 8) 0) (finG N S K E to t long is [] [] 0) (.br (cmpI .gtr (binI .quo .u64 N 8) (IntKind.u64.wrap (binI .sub .i64 (n : Int) S))) (finG N S K E to t long is [] [] 0)
    (needs [0 ≤ S, S ≤ eT N S, eT N S ≤ (n : Int)] (finG N S K E to t long is [0 + S.toNat + ((eT N S).toNat - S.toNat) ≤ L.length] (pT N S L) (eT N S))))))
theorem run_CodeGets (N S : List (List Int) → Int) (K E B : List (List Int) → Bool) (Ei : List (List Int) → Int) (Mx : List (List Int) → List Int) (n : Nat) (L : List Int) :
    callA (cGets N S K E B Ei Mx) false 1000 Tryd.f7 [.one (.slr 0 1 0 n)] (memX gdM [.rseq .u8 L 1, .gone]) =
    .br (cmpI .gtr (n : Int) 400) yesO (needs [0 + n ≤ L.length, 0 + n ≤ L.length, (partQ L 0 n).length ≤ bigLen] (.br (B [partQ L 0 n]) (.br (decide (Mx [partQ L 0 n] = []))
      (aftG (N [partQ L 0 n]) (S [partQ L 0 n]) (K [partQ L 0 n]) E n L false (Mx [partQ L 0 n]) (Ei [partQ L 0 n]) true) (aftG (N [partQ L 0 n]) (S [partQ L 0 n]) (K [partQ L 0 n]) E n L true (Mx [partQ L 0 n]) (Ei [partQ L 0 n]) true))
      (aftG (N [partQ L 0 n]) (S [partQ L 0 n]) (K [partQ L 0 n]) E n L false (Mx [partQ L 0 n]) 0 false))) := by kernel_rfl

theorem tg_num {M : List Int} (h8 : ∀ y ∈ M, okI .u8 y) (hM : M.length ≤ 1000) (hg : glB M = true) : binI .rem .u64 (glN M) 8 = glN M % 8 ∧ binI .quo .u64 (glN M) 8 = glN M / 8 ∧ IntKind.u64.wrap (binI .sub .i64 (M.length : Int) (glS M)) = (M.length : Int) - glS M ∧
    (glN M / 8 ≤ (M.length : Int) - glS M → eT (glN M) (glS M) = tgE M ∧ pT (glN M) (glS M) M = tgM M) := by
  obtain ⟨g1, g2, g3, g4, g5, g6, g7⟩ := gl_facts h8 hg
  obtain ⟨N, hN⟩ := Int.eq_ofNat_of_zero_le g1
  have e1 : binI .rem .u64 (glN M) 8 = glN M % 8 := by
    show (glN M).tmod 8 = _
    exact Int.tmod_eq_emod_of_nonneg g1
  have e2 : binI .quo .u64 (glN M) 8 = glN M / 8 := by
    rw [hN]
    have : binI .quo .u64 (N : Int) ((8 : Nat) : Int) = ((N / 8 : Nat) : Int) := quoN (by omega)
    exact this
  have e3 : IntKind.u64.wrap (binI .sub .i64 (M.length : Int) (glS M)) = (M.length : Int) - glS M := by
    have : binI .sub .i64 (M.length : Int) (glS M) = (M.length : Int) - glS M := wrap_ok (ok64 (by omega) (by omega))
    rw [this]
    exact wrap_ok (oku (by omega) (by omega))
  refine ⟨e1, e2, e3, fun c2 => ?_⟩
  have ee : eT (glN M) (glS M) = tgE M := by
    unfold eT
    rw [e2]
    have w1 : IntKind.i64.wrap (glN M / 8) = glN M / 8 := wrap_ok (ok64 (by omega) (by omega))
    rw [w1]
    exact wrap_ok (ok64 (by omega) (by omega))
  refine ⟨ee, ?_⟩
  unfold pT tgM
  rw [ee, partQ_eq, Nat.zero_add]
  congr 1
  unfold tgE
  omega
theorem finG_sat {N S : Int} {K to : Bool} {t rl : List Int} {long : Int} {is : Bool} {rp : List Prop} (hK : (K == cmpI .gtr S 0) = true) (hp : allP rp) (hl : srcL to t = rl) (hi : (is == cmpI .gtr long 0) = true) : (finG N S K E_same to t long is rp rl long).sat isY := by
  refine ⟨fun _ => ⟨fun _ => ⟨fun _ => needs_i ((allP_iff).2 ⟨srcO_ok, hp⟩) ⟨fun _ => ⟨fun _ => .inl (by rw [hi]), fun h => ?_⟩, fun h => ?_⟩, fun h => ?_⟩, fun h => ?_⟩, fun h => ?_⟩
  · rw [eql_d, decide_eq_true rfl] at h; cases h
  · rw [hl, E_self] at h; cases h
  · rw [hK] at h; cases h
  · rw [eql_d, decide_eq_true rfl] at h; cases h
  · rw [eql_d, decide_eq_true rfl] at h; cases h
theorem KS {M : List Int} (h8 : ∀ y ∈ M, okI .u8 y) : (glB M == cmpI .gtr (glS M) 0) = true := by
  cases hq : glB M with
  | true =>
    obtain ⟨g1, g2, g3, g4, g5, g6, g7⟩ := gl_facts h8 hq
    have : cmpI .gtr (glS M) 0 = true := decide_eq_true (by omega)
    rw [this]; rfl
  | false =>
    rw [(gl_none hq).2]; rfl
theorem tgB_iff {M : List Int} : tgB M = true ↔ glB M = true ∧ glN M % 8 = 0 ∧ glN M / 8 ≤ (M.length : Int) - glS M := by
  unfold tgB
  simp only [Bool.and_eq_true, decide_eq_true_eq]
theorem aftG_sat {M : List Int} (h8 : ∀ y ∈ M, okI .u8 y) (hM : M.length ≤ 1000) {to : Bool} {t : List Int} {long : Int} {is : Bool} (h1 : tgB M = true → srcL to t = tgM M ∧ long = tgE M ∧ is = true) (h2 : tgB M = false → srcL to t = [] ∧ long = 0 ∧ is = false) :
    (aftG (glN M) (glS M) (glB M) E_same M.length M to t long is).sat isY := by
  have hK := KS h8
  have none_ok : tgB M = false → (finG (glN M) (glS M) (glB M) E_same to t long is [] [] 0).sat isY := fun h => by
    obtain ⟨q1, q2, q3⟩ := h2 h
    subst q2 q3
    exact finG_sat hK trivial q1 rfl
  refine needs_i ⟨by omega, by omega, trivial⟩ ⟨fun h => none_ok ?_, fun h => ?_⟩
  · rw [eql_d] at h
    have h := of_decide_eq_true h
    cases hq : tgB M with
    | false => rfl
    | true =>
      obtain ⟨g, _⟩ := tgB_iff.1 hq
      obtain ⟨g1, g2, g3, g4, g5, g6, g7⟩ := gl_facts h8 g
      omega
  rw [eql_d] at h
  have h := of_decide_eq_false h
  have hg : glB M = true := by
    cases hq : glB M with
    | true => rfl
    | false => exact absurd (gl_none hq).2 h
  obtain ⟨e1, e2, e3, e4⟩ := tg_num h8 hM hg
  obtain ⟨g1, g2, g3, g4, g5, g6, g7⟩ := gl_facts h8 hg
  rw [e1, e2, e3, neq_d]
  have no_of : ¬ (glN M % 8 = 0 ∧ glN M / 8 ≤ (M.length : Int) - glS M) → tgB M = false := fun hn => by
    cases hq : tgB M with
    | false => rfl
    | true => exact absurd (tgB_iff.1 hq).2 hn
  refine ⟨fun h' => none_ok (no_of fun q => ?_), fun h' => ⟨fun h'' => none_ok (no_of fun q => ?_), fun h'' => ?_⟩⟩
  · rw [decide_eq_true q.1] at h'; cases h'
  · have h'' : (M.length : Int) - glS M < glN M / 8 := of_decide_eq_true h''
    omega
  have c1 : glN M % 8 = 0 := by
    cases hq : decide (glN M % 8 = 0) with
    | true => exact of_decide_eq_true hq
    | false => rw [hq] at h'; cases h'
  have c2 : ¬ (M.length : Int) - glS M < glN M / 8 := of_decide_eq_false h''
  obtain ⟨e5, e6⟩ := e4 (by omega)
  have hB : tgB M = true := tgB_iff.2 ⟨hg, c1, by omega⟩
  obtain ⟨q1, q2, q3⟩ := h1 hB
  subst q2 q3
  have hE : tgE M = glS M + glN M / 8 := rfl
  rw [e5, e6]
  refine needs_i ⟨by omega, by omega, by omega, trivial⟩ (finG_sat hK ⟨by omega, trivial⟩ q1 ?_)
  have : cmpI .gtr (tgE M) 0 = true := decide_eq_true (by omega)
  rw [this]; rfl
theorem cokGets : COk (cGets gN gS gB E_same tB tE tM) := cokM (mem1 fn_RGetText) (mem1 ps_wakes16) (memc qs_GetLeft (memc qs_GetText (memc qs_RGetLeft (mem1 qs_Same)))) mem0
set_option maxRecDepth 100000 in
theorem law_CodeGets {H : Type} {enc : TypeId × Value → H} {W : World} {base : Nat} {args : Array Value} {ds : List (DataW H)} {ps : List MemPlace} (hT : DataW.TrodAll enc Tryd.prog W 0 (fun _ => true) true Tryd.f7.params.toList args.toList ds ps)
    (hval : ∀ (j : Nat) t v, Tryd.f7.params[j]? = some t → args[j]? = some v → Value.okWide Tryd.prog W .any base t v) :
    Calls Tryd.prog 7 args W fun e w' => e = .returned (.bool true) ∧ RowKit.Below W.heap.size W w' :=
  law_s (C := cGets gN gS gB E_same tB tE tM) cokGets rfl rfl fn_CodeGets (shs := [.one (.s .u8)]) (by kernel_rfl) 1000
    (fun Ms hok => ⟨_, run_CodeGets gN gS gB E_same tB tE tM (Ms 0).length (Ms 0), by
      obtain ⟨⟨_, h8⟩, _⟩ := hok
      generalize Ms 0 = M at *
      refine ⟨fun _ => .inr rfl, fun hm => ?_⟩
      have hm : ¬ (400 < (M.length : Int)) := of_decide_eq_false hm
      rw [partQ_all]
      refine needs_i ⟨by omega, by omega, by unfold bigLen; omega, trivial⟩ ⟨fun hb => ⟨fun hx => ?_, fun hx => ?_⟩, fun hb => ?_⟩
      · have hb : tgB M = true := hb
        have hx : tgM M = [] := of_decide_eq_true hx
        exact aftG_sat h8 (by omega) (fun _ => ⟨hx.symm, rfl, rfl⟩) (fun h => by rw [hb] at h; cases h)
      · have hb : tgB M = true := hb
        exact aftG_sat h8 (by omega) (fun _ => ⟨partQ_all _, rfl, rfl⟩) (fun h => by rw [hb] at h; cases h)
      · have hb : tgB M = false := hb
        exact aftG_sat h8 (by omega) (fun h => by rw [hb] at h; cases h) (fun _ => ⟨rfl, rfl, rfl⟩)⟩) hT hval (fun p hp => by cases hp)
end Go.Proofs.YtpaphgdbfbkihaaDoor
